/- Layer 8: the walk of Append. -/
import Derived.Test.YtbmamhcjbhnkiaaKyb
import Derived.Deep.RegionLaw
namespace Go.Proofs.Ytbmamhcjbhnkiaa
open Go.RowKit

/-- 'wpAnyH_take' at operations that stand in a list: the one in question is found by unfolding the list. -/
theorem take_l {P : Program} {l : List Oper} {Q : Exit → Act → World → Prop} {md : Region.Mode} {S : World → Prop} {i : Nat} {oi : Oper} {v : Value} {fuel : Nat} {listed : Array Bool} {a : Act} {w : World} (hi : l[i]? = some oi)
    (hs : Region.noSelect l.toArray = true) (hf : Region.free md l.toArray listed i = true) (hr : (Region.ready md l.toArray listed).contains i = true)
    (hQ : ∀ c a w, Q (.panic c) (a.put oi.dst v) w → Q (.panic c) a w) (hy : YieldsIf P l.toArray S oi v a) (hS : S w)
    (h : wpAnyH P md l.toArray Q S fuel (listed.setIfInBounds i true) (a.put oi.dst v) w) : wpAnyH P md l.toArray Q S (fuel + 1) listed a w :=
  wpAnyH_take (by rw [List.getElem?_toArray]; exact hi) hs hf hr hQ hy hS h
theorem cons_l {P : Program} {l : List Oper} {Q : Exit → Act → World → Prop} {md : Region.Mode} {S : World → Prop} {fuel : Nat} {listed : Array Bool} {a : Act} {w : World} {i : Nat} {o : Oper} {rs : List Nat} (ho : l[i]? = some o)
    (h : ∀ K' : Act → World → Prop, Shut (∀ a w, S w → (S w → wpAnyH P md l.toArray Q S fuel (listed.setIfInBounds i true) a w) → K' a w) → if Region.wanted o (yielded l.toArray a.tmps) = true then Oper.wp P o a w K' Q else K' (a.put o.dst undef) w)
    (hs : AllReadyH P md l.toArray Q S fuel listed a w rs) : AllReadyH P md l.toArray Q S fuel listed a w (i :: rs) :=
  AllReadyH.cons (by rw [List.getElem?_toArray]; exact ho) h hs

theorem cost_ge : ∀ (l : List (List UInt8)), (∀ b ∈ l, Wal.Fit b) → l.length * 10 ≤ Wal.cost l
  | [], _ => by simp [Wal.cost]
  | b :: r, h => by
    have h1 := (h b (by simp)).1
    have := cost_ge r (fun c hc => h c (by simp [hc]))
    simp only [Wal.cost, List.length_cons]; omega

/-- An answer that changes nothing but that the log may be dead. -/
def RetNo (w : World) (F : Nat → Prop) (b p g : Nat) (d : Dk) (L : Wal.Lg) (z : Int) (e : Ending) (w' : World) : Prop := e = .returned (.int .i64 z) ∧ Wl w' F b p g d L ∧ Keeps (fun k => k = b) w w'

theorem append_down (F : Nat → Prop) (b p g : Nat) (d : Dk) (L : Wal.Lg) (A : Option Addr) (n c : Nat) (w : World) (hW : Wl w F b p g d L) (hd : L.dead = true ∨ d.down = true) :
    Calls Try.prog 47 #[.pointer (some ⟨b, 0, none⟩), .slice A n c] w (RetNo w F b p g d (L.die false) 20) := by
  by_cases hn : 1 ≤ n ∧ n ≤ 65536
  · go_enter Try.func47, Try.ntmps47
    go_wp2_with fail
    refine (cost_ok n hn.1 hn.2 w).mono ?_
    rintro e w' ⟨rfl, rfl⟩
    go_wp2_with fail
    refine (alive_no F b p g d L w hW hd).mono ?_
    rintro e w1 ⟨rfl, hW1, hk1⟩
    go_wp2_with fail
    go_ret
    exact ⟨rfl, hW1, hk1⟩
  · go_enter Try.func47, Try.ntmps47
    go_wp2_with fail
    refine (cost_bad n (by omega) w).mono ?_
    rintro e w' ⟨rfl, rfl⟩
    go_wp2_with fail
    refine (alive_no F b p g d L w hW hd).mono ?_
    rintro e w1 ⟨rfl, hW1, hk1⟩
    go_wp2_with fail
    go_ret
    exact ⟨rfl, hW1, hk1⟩

theorem append_size (F : Nat → Prop) (b p g : Nat) (d : Dk) (L : Wal.Lg) (A : Option Addr) (n c : Nat) (hn : n < 1 ∨ 65536 < n) (w : World) (hW : Wl w F b p g d L) (hd : L.dead = false) (hup : d.down = false) :
    Calls Try.prog 47 #[.pointer (some ⟨b, 0, none⟩), .slice A n c] w (RetNo w F b p g d L 11) := by
  go_enter Try.func47, Try.ntmps47
  go_wp2_with fail
  refine (cost_bad n hn w).mono ?_
  rintro e w' ⟨rfl, rfl⟩
  go_wp2_with fail
  refine (alive_yes F b p g d L w hW hd hup).mono ?_
  rintro e w1 ⟨rfl, hW1, hk1⟩
  go_wp2_with fail
  go_ret
  exact ⟨rfl, hW1, hk1⟩

theorem append_space (F : Nat → Prop) (b p g : Nat) (d : Dk) (L : Wal.Lg) (A : Option Addr) (n c : Nat) (hn : 1 ≤ n) (hn2 : n ≤ 65536) (hfin : L.fin ≤ Wal.hs d) (hno : Wal.hs d < L.fin + (9 + n)) (w : World) (hW : Wl w F b p g d L) (hd : L.dead = false) (hup : d.down = false) :
    Calls Try.prog 47 #[.pointer (some ⟨b, 0, none⟩), .slice A n c] w (RetNo w F b p g d L 21) := by
  have hgt : ((Wal.hs d - L.fin : Nat) : Int) < ((9 + n : Nat) : Int) := by omega
  obtain ⟨rm, hrm⟩ : ∃ rm, rm = Wal.hs d - L.fin := ⟨_, rfl⟩
  obtain ⟨m, hm⟩ : ∃ m, m = 9 + n := ⟨_, rfl⟩
  rw [← hrm, ← hm] at hgt
  have HRM := Lib.hid hrm
  have HM := Lib.hid hm
  have hm1 : 0 < m := by omega
  clear hrm hm
  go_enter Try.func47, Try.ntmps47
  go_wp2_with fail
  refine (cost_ok n hn hn2 w).mono ?_
  rintro e w' ⟨rfl, rfl⟩
  rw [← HM.out]
  go_wp2_with fail
  refine (alive_yes F b p g d L w hW hd hup).mono ?_
  rintro e w1 ⟨rfl, hW1, hk1⟩
  go_wp2_with fail
  refine (room_any F b p g d L hfin w1 hW1).mono ?_
  rintro e w2 ⟨rfl, hk2⟩
  rw [← HRM.out]
  go_wp2_with fail
  go_ret
  exact ⟨rfl, hW1.keepN hk2, hk1.trans (hk2.mono fun _ _ h => h.elim)⟩

/-- Bytes don't lie in a log's struct. -/
theorem LogAt'.off {w : World} {F : Nat → Prop} {b p : Nat} {L : Wal.Lg} {v : Value} {vs : List Value} (h : LogAt' w F b p L v vs) {A : Option Addr} {n : Nat} {l : List UInt8} (hr : RdB w A n l) (h0 : 0 < n) (a : Addr) (ha : A = some a) : a.block ≠ b := by
  obtain ⟨bb, off, e, hc⟩ := hr.cells h0
  rw [e] at ha
  cases ha
  have hl : 0 < l.length := by rw [hr.len]; exact h0
  have hx := hc 0 _ (List.getElem?_eq_getElem hl)
  rintro rfl
  have hv : ∀ x : UInt8, v ≠ bv x := fun x hx => by
    rcases h.own.2 with ⟨rfl, _⟩ | ⟨_, _, _, rfl, _⟩ <;> cases hx
  simp only [World.cell?, h.st, Nat.add_zero] at hx
  match off, hx with
  | 0, hx => simp at hx
  | 1, hx => simp at hx
  | 2, hx => simp at hx
  | 3, hx => simp at hx
  | 4, hx => simp at hx; exact hv _ hx
  | 5, hx => simp at hx
  | _ + 6, hx => simp at hx

/-- The answer of an Append that is begun. -/
def RetApp (w : World) (F : Nat → Prop) (b p g : Nat) (L L' : Wal.Lg) (r : Dk × Bool) (e : Ending) (w' : World) : Prop :=
  ((r.2 = true ∧ e = .returned (.int .i64 0) ∧ ∃ F', Wl w' F' b p g r.1 L' ∧ ∀ k, F' k → F k ∨ w.heap.size ≤ k) ∨ (r.2 = false ∧ e = .returned (.int .i64 20) ∧ Wl w' F b p g r.1 (L.die false))) ∧
    Keeps (fun k => k = p ∨ k = g ∨ F k) w w'

set_option maxHeartbeats 4000000 in
set_option maxRecDepth 100000 in
theorem append_do (F : Nat → Prop) (b p g : Nat) (d : Dk) (L : Wal.Lg) (hh : L.half ≤ 1) (hg : L.gen < 4294967296) (A : Option Addr) (n c : Nat) (bs : List UInt8) (hfin : L.fin + (9 + n) ≤ Wal.hs d) (hmany : L.recs.length * 10 ≤ L.fin) (hn : 1 ≤ n) (hn2 : n ≤ 65536)
    (w : World) (hW : Wl w F b p g d L) (hd : L.dead = false) (hup : d.down = false) (hr : RdB w A n bs) (hA : ∀ a, A = some a → ¬ (a.block = p ∨ a.block = g ∨ F a.block)) :
    Calls Try.prog 47 #[.pointer (some ⟨b, 0, none⟩), .slice A n c] w (RetApp w F b p g L (L.added bs) (Wal.app d L bs)) := by
  have hz := Wal.hs_le hW.disk.wf
  have hbF := hW.hb
  have hbp := hW.bp
  have hgt : ((9 + n : Nat) : Int) ≤ ((Wal.hs d - L.fin : Nat) : Int) := by omega
  obtain ⟨rm, hrm⟩ : ∃ rm, rm = Wal.hs d - L.fin := ⟨_, rfl⟩
  obtain ⟨m, hm⟩ : ∃ m, m = 9 + n := ⟨_, rfl⟩
  rw [← hrm, ← hm] at hgt
  have HRM := Lib.hid hrm
  have HM := Lib.hid hm
  have hm1 : 0 < m := by omega
  have hm2 : m ≤ 65545 := by omega
  have hmf : L.fin + m ≤ Wal.hs d := by omega
  have hrl : Hid ((Wal.recOf L.gen L.fin bs 0).length = m) := by show _ = _; rw [Wal.recOf_length, hr.len, hm]
  obtain ⟨rec, hrec⟩ : ∃ rec, rec = Wal.recOf L.gen L.fin bs 0 := ⟨_, rfl⟩
  rw [← hrec] at hrl
  obtain ⟨r1, hr1⟩ : ∃ r1, r1 = Wal.wr d L.half L.fin rec := ⟨_, rfl⟩
  have hz1 : Wal.hs r1.1 = Wal.hs d := by rw [hr1]; unfold Wal.hs Wal.wr; rw [(hW.disk.wf.write _ _).2]
  obtain ⟨r, hrr⟩ : ∃ r, r = Wal.app d L bs := ⟨_, rfl⟩
  have HR : Hid (r = Wal.andThen r1 fun d => Wal.wr d L.half (L.fin + 8) [1]) := by show _ = _; rw [hrr, hr1, hrec]; rfl
  rw [← hrr]
  have Hrec := Lib.hid hrec
  have Hr1 := Lib.hid hr1
  have Hd := Lib.hid hd
  have Hup := Lib.hid hup
  have hkS : ∀ {w w' : World}, Keeps (fun k => k = b) w w' → Keeps (fun k => k = p ∨ k = g ∨ F k) w w' := fun hk => hk.mono fun k _ h => .inr (.inr (h ▸ hbF))
  have hkN : ∀ {w w' : World}, Keeps Non w w' → Keeps (fun k => k = p ∨ k = g ∨ F k) w w' := fun hk => hk.mono fun k _ h => h.elim
  have hkW : ∀ {w w' : World}, Keeps (fun k => k = p ∨ k = g ∨ k = b) w w' → Keeps (fun k => k = p ∨ k = g ∨ F k) w w' := fun hk => hk.mono fun k _ h => by rcases h with h | h | h; exact .inl h; exact .inr (.inl h); exact .inr (.inr (h ▸ hbF))
  clear hrm hm hrec hr1 hrr hup
  cases hok : r1.2 with
  | false =>
    have HE : Hid (r = (r1.1, false)) := by show _ = _; rw [HR.out, Wal.andThen_no hok]; exact Prod.ext rfl hok
    go_enter Try.func47, Try.ntmps47
    go_wp2_with fail
    refine (cost_ok n hn hn2 w).mono ?_
    rintro e w' ⟨rfl, rfl⟩
    rw [← HM.out]
    go_wp2_with fail
    refine (alive_yes F b p g d L w hW Hd.out Hup.out).mono ?_
    rintro e w1 ⟨rfl, hW1, hk1⟩
    go_wp2_with fail
    refine (room_any F b p g d L (by omega) w1 hW1).mono ?_
    rintro e w2 ⟨rfl, hk2⟩
    rw [← HRM.out]
    have hk02 := (hkS hk1).trans (hkN hk2)
    have hWD := (hW1.keepN hk2).keepN ((Keeps.refl _ _).drew)
    have hrD := (hr.keep hk02 fun _ a ha => hA a ha).keepN ((Keeps.refl Non w2).drew)
    obtain ⟨v, vs, hlD⟩ := hWD.log
    have sD : w2.drew.cell? ⟨b, 1, none⟩ = some (.int .i64 (L.half : Int)) ∧ w2.drew.cell? ⟨b, 2, none⟩ = some (.int .i64 (L.gen : Int)) ∧ w2.drew.cell? ⟨b, 3, none⟩ = some (.int .i64 (L.fin : Int)) := ⟨hlD.cells.c1, hlD.cells.c2, hlD.cells.c3⟩
    clear hlD hk1 hk2 hW1
    go_wp2_with fail
    refine wp_region_held_drew (S := (fun w' => w'.cell? ⟨b, 1, none⟩ = some (.int .i64 (L.half : Int)) ∧ w'.cell? ⟨b, 2, none⟩ = some (.int .i64 (L.gen : Int)) ∧ w'.cell? ⟨b, 3, none⟩ = some (.int .i64 (L.fin : Int)))) (by kernel_rfl) sD (fun hHeld => ?_)
    refine take_l (i := 0) (v := .pointer (some ⟨b, 0, none⟩)) rfl (by kernel_rfl) (by kernel_rfl) (by kernel_rfl) (fun _ _ _ h => h) (Or.inl ⟨by rfl, ?hy⟩) (by assumption) ?_
    case hy => (intro w hSw; (try dsimp only at hSw); go_simp)
    try simp only [Act.put, List.setIfInBounds_toArray, List.set_cons_zero, List.set_cons_succ]
    refine take_l (i := 1) (v := .pointer (some ⟨b, 0, none⟩)) rfl (by kernel_rfl) (by kernel_rfl) (by kernel_rfl) (fun _ _ _ h => h) (Or.inl ⟨by rfl, ?hy⟩) (by assumption) ?_
    case hy => (intro w hSw; (try dsimp only at hSw); go_simp)
    try simp only [Act.put, List.setIfInBounds_toArray, List.set_cons_zero, List.set_cons_succ]
    refine take_l (i := 2) (v := .pointer (some ⟨b, 0, none⟩)) rfl (by kernel_rfl) (by kernel_rfl) (by kernel_rfl) (fun _ _ _ h => h) (Or.inl ⟨by rfl, ?hy⟩) (by assumption) ?_
    case hy => (intro w hSw; (try dsimp only at hSw); go_simp)
    try simp only [Act.put, List.setIfInBounds_toArray, List.set_cons_zero, List.set_cons_succ]
    refine take_l (i := 3) (v := .pointer (some ⟨b, 1, none⟩)) rfl (by kernel_rfl) (by kernel_rfl) (by kernel_rfl) (fun _ _ _ h => h) (Or.inl ⟨by rfl, ?hy⟩) (by assumption) ?_
    case hy => (intro w hSw; (try dsimp only at hSw); go_simp)
    try simp only [Act.put, List.setIfInBounds_toArray, List.set_cons_zero, List.set_cons_succ]
    refine take_l (i := 4) (v := .int .i64 (L.half : Int)) rfl (by kernel_rfl) (by kernel_rfl) (by kernel_rfl) (fun _ _ _ h => h) (Or.inl ⟨by rfl, ?hy⟩) (by assumption) ?_
    case hy => (intro w hSw; (try dsimp only at hSw); go_simp)
    try simp only [Act.put, List.setIfInBounds_toArray, List.set_cons_zero, List.set_cons_succ]
    refine take_l (i := 5) (v := .pointer (some ⟨b, 0, none⟩)) rfl (by kernel_rfl) (by kernel_rfl) (by kernel_rfl) (fun _ _ _ h => h) (Or.inl ⟨by rfl, ?hy⟩) (by assumption) ?_
    case hy => (intro w hSw; (try dsimp only at hSw); go_simp)
    try simp only [Act.put, List.setIfInBounds_toArray, List.set_cons_zero, List.set_cons_succ]
    refine take_l (i := 6) (v := .pointer (some ⟨b, 0, none⟩)) rfl (by kernel_rfl) (by kernel_rfl) (by kernel_rfl) (fun _ _ _ h => h) (Or.inl ⟨by rfl, ?hy⟩) (by assumption) ?_
    case hy => (intro w hSw; (try dsimp only at hSw); go_simp)
    try simp only [Act.put, List.setIfInBounds_toArray, List.set_cons_zero, List.set_cons_succ]
    refine take_l (i := 7) (v := .pointer (some ⟨b, 3, none⟩)) rfl (by kernel_rfl) (by kernel_rfl) (by kernel_rfl) (fun _ _ _ h => h) (Or.inl ⟨by rfl, ?hy⟩) (by assumption) ?_
    case hy => (intro w hSw; (try dsimp only at hSw); go_simp)
    try simp only [Act.put, List.setIfInBounds_toArray, List.set_cons_zero, List.set_cons_succ]
    refine take_l (i := 8) (v := .int .i64 (L.fin : Int)) rfl (by kernel_rfl) (by kernel_rfl) (by kernel_rfl) (fun _ _ _ h => h) (Or.inl ⟨by rfl, ?hy⟩) (by assumption) ?_
    case hy => (intro w hSw; (try dsimp only at hSw); go_simp)
    try simp only [Act.put, List.setIfInBounds_toArray, List.set_cons_zero, List.set_cons_succ]
    refine take_l (i := 9) (v := .pointer (some ⟨b, 0, none⟩)) rfl (by kernel_rfl) (by kernel_rfl) (by kernel_rfl) (fun _ _ _ h => h) (Or.inl ⟨by rfl, ?hy⟩) (by assumption) ?_
    case hy => (intro w hSw; (try dsimp only at hSw); go_simp)
    try simp only [Act.put, List.setIfInBounds_toArray, List.set_cons_zero, List.set_cons_succ]
    refine take_l (i := 10) (v := .pointer (some ⟨b, 0, none⟩)) rfl (by kernel_rfl) (by kernel_rfl) (by kernel_rfl) (fun _ _ _ h => h) (Or.inl ⟨by rfl, ?hy⟩) (by assumption) ?_
    case hy => (intro w hSw; (try dsimp only at hSw); go_simp)
    try simp only [Act.put, List.setIfInBounds_toArray, List.set_cons_zero, List.set_cons_succ]
    refine take_l (i := 11) (v := .pointer (some ⟨b, 2, none⟩)) rfl (by kernel_rfl) (by kernel_rfl) (by kernel_rfl) (fun _ _ _ h => h) (Or.inl ⟨by rfl, ?hy⟩) (by assumption) ?_
    case hy => (intro w hSw; (try dsimp only at hSw); go_simp)
    try simp only [Act.put, List.setIfInBounds_toArray, List.set_cons_zero, List.set_cons_succ]
    refine take_l (i := 12) (v := .int .i64 (L.gen : Int)) rfl (by kernel_rfl) (by kernel_rfl) (by kernel_rfl) (fun _ _ _ h => h) (Or.inl ⟨by rfl, ?hy⟩) (by assumption) ?_
    case hy => (intro w hSw; (try dsimp only at hSw); go_simp)
    try simp only [Act.put, List.setIfInBounds_toArray, List.set_cons_zero, List.set_cons_succ]
    refine take_l (i := 13) (v := .pointer (some ⟨b, 0, none⟩)) rfl (by kernel_rfl) (by kernel_rfl) (by kernel_rfl) (fun _ _ _ h => h) (Or.inl ⟨by rfl, ?hy⟩) (by assumption) ?_
    case hy => (intro w hSw; (try dsimp only at hSw); go_simp)
    try simp only [Act.put, List.setIfInBounds_toArray, List.set_cons_zero, List.set_cons_succ]
    refine take_l (i := 14) (v := .pointer (some ⟨b, 0, none⟩)) rfl (by kernel_rfl) (by kernel_rfl) (by kernel_rfl) (fun _ _ _ h => h) (Or.inl ⟨by rfl, ?hy⟩) (by assumption) ?_
    case hy => (intro w hSw; (try dsimp only at hSw); go_simp)
    try simp only [Act.put, List.setIfInBounds_toArray, List.set_cons_zero, List.set_cons_succ]
    refine take_l (i := 15) (v := .pointer (some ⟨b, 3, none⟩)) rfl (by kernel_rfl) (by kernel_rfl) (by kernel_rfl) (fun _ _ _ h => h) (Or.inl ⟨by rfl, ?hy⟩) (by assumption) ?_
    case hy => (intro w hSw; (try dsimp only at hSw); go_simp)
    try simp only [Act.put, List.setIfInBounds_toArray, List.set_cons_zero, List.set_cons_succ]
    refine take_l (i := 16) (v := .int .i64 (L.fin : Int)) rfl (by kernel_rfl) (by kernel_rfl) (by kernel_rfl) (fun _ _ _ h => h) (Or.inl ⟨by rfl, ?hy⟩) (by assumption) ?_
    case hy => (intro w hSw; (try dsimp only at hSw); go_simp)
    try simp only [Act.put, List.setIfInBounds_toArray, List.set_cons_zero, List.set_cons_succ]
    refine take_l (i := 17) (v := .slice A n c) rfl (by kernel_rfl) (by kernel_rfl) (by kernel_rfl) (fun _ _ _ h => h) (Or.inl ⟨by rfl, ?hy⟩) (by assumption) ?_
    case hy => (intro w hSw; (try dsimp only at hSw); go_simp)
    try simp only [Act.put, List.setIfInBounds_toArray, List.set_cons_zero, List.set_cons_succ]
    refine wpAnyH_ready (rs := [18]) (by kernel_rfl) (by simp) ?_
    refine cons_l rfl (fun K hK => ?_) AllReadyH.nil
    go_simp
    refine (record_any L.gen L.fin hg (by omega) A n c bs 0 (by omega) _ hrD).mono ?_
    rintro e w3 ⟨u, rfl, hu, hk3⟩
    rw [← Hrec.out, hrl.out] at hu
    obtain ⟨Au, cu, rfl, hru, hbu, hnu, hcu⟩ := own_rdB hu (by omega)
    have hW3 := hWD.keepN hk3
    obtain ⟨v3, vs3, hl3⟩ := hW3.log
    have s3 : w3.cell? ⟨b, 1, none⟩ = some (.int .i64 (L.half : Int)) ∧ w3.cell? ⟨b, 2, none⟩ = some (.int .i64 (L.gen : Int)) ∧ w3.cell? ⟨b, 3, none⟩ = some (.int .i64 (L.fin : Int)) := ⟨hl3.cells.c1, hl3.cells.c2, hl3.cells.c3⟩
    clear hl3
    go_wp2_with fail
    refine hK.out _ _ s3 (fun hHeld => ?_)
    clear hK K
    try simp only [Act.put, List.setIfInBounds_toArray, List.set_cons_zero, List.set_cons_succ]
    refine wpAnyH_ready (rs := [19]) (by kernel_rfl) (by simp) ?_
    refine cons_l rfl (fun K hK => ?_) AllReadyH.nil
    go_simp
    refine (lwrite_any F b p g d L L.half L.fin hh Au m cu rec (by rw [hrl.out]; omega) _ hW3 Hd.out hru hnu).mono ?_
    rintro e w4 ⟨rfl, hW4, hk4⟩
    rw [← Hr1.out] at hW4 ⊢
    rw [hok] at hW4 ⊢
    obtain ⟨v4, vs4, hl4⟩ := hW4.log
    have s4 : w4.cell? ⟨b, 1, none⟩ = some (.int .i64 (L.half : Int)) ∧ w4.cell? ⟨b, 2, none⟩ = some (.int .i64 (L.gen : Int)) ∧ w4.cell? ⟨b, 3, none⟩ = some (.int .i64 (L.fin : Int)) := ⟨hl4.cells.c1, hl4.cells.c2, hl4.cells.c3⟩
    clear hl4
    go_wp2_with fail
    refine hK.out _ _ s4 (fun hHeld => ?_)
    clear hK K
    try simp only [Act.put, List.setIfInBounds_toArray, List.set_cons_zero, List.set_cons_succ]
    refine take_l (i := 20) (v := .bool true) rfl (by kernel_rfl) (by kernel_rfl) (by kernel_rfl) (fun _ _ _ h => h) (Or.inl ⟨by rfl, ?hy⟩) (by assumption) ?_
    case hy => (intro w hSw; (try dsimp only at hSw); go_simp)
    try simp only [Act.put, List.setIfInBounds_toArray, List.set_cons_zero, List.set_cons_succ]
    refine take_l (i := 21) (v := .bool true) rfl (by kernel_rfl) (by kernel_rfl) (by kernel_rfl) (fun _ _ _ h => h) (Or.inl ⟨by rfl, ?hy⟩) (by assumption) ?_
    case hy => (intro w hSw; (try dsimp only at hSw); go_simp)
    try simp only [Act.put, List.setIfInBounds_toArray, List.set_cons_zero, List.set_cons_succ]
    refine take_l (i := 22) (v := undef) rfl (by kernel_rfl) (by kernel_rfl) (by kernel_rfl) (fun _ _ _ h => h) (Or.inr ⟨by rfl, rfl⟩) (by assumption) ?_
    try simp only [Act.put, List.setIfInBounds_toArray, List.set_cons_zero, List.set_cons_succ]
    refine take_l (i := 23) (v := undef) rfl (by kernel_rfl) (by kernel_rfl) (by kernel_rfl) (fun _ _ _ h => h) (Or.inr ⟨by rfl, rfl⟩) (by assumption) ?_
    try simp only [Act.put, List.setIfInBounds_toArray, List.set_cons_zero, List.set_cons_succ]
    refine take_l (i := 24) (v := undef) rfl (by kernel_rfl) (by kernel_rfl) (by kernel_rfl) (fun _ _ _ h => h) (Or.inr ⟨by rfl, rfl⟩) (by assumption) ?_
    try simp only [Act.put, List.setIfInBounds_toArray, List.set_cons_zero, List.set_cons_succ]
    refine take_l (i := 25) (v := undef) rfl (by kernel_rfl) (by kernel_rfl) (by kernel_rfl) (fun _ _ _ h => h) (Or.inr ⟨by rfl, rfl⟩) (by assumption) ?_
    try simp only [Act.put, List.setIfInBounds_toArray, List.set_cons_zero, List.set_cons_succ]
    refine take_l (i := 26) (v := undef) rfl (by kernel_rfl) (by kernel_rfl) (by kernel_rfl) (fun _ _ _ h => h) (Or.inr ⟨by rfl, rfl⟩) (by assumption) ?_
    try simp only [Act.put, List.setIfInBounds_toArray, List.set_cons_zero, List.set_cons_succ]
    refine take_l (i := 27) (v := undef) rfl (by kernel_rfl) (by kernel_rfl) (by kernel_rfl) (fun _ _ _ h => h) (Or.inr ⟨by rfl, rfl⟩) (by assumption) ?_
    try simp only [Act.put, List.setIfInBounds_toArray, List.set_cons_zero, List.set_cons_succ]
    refine take_l (i := 28) (v := undef) rfl (by kernel_rfl) (by kernel_rfl) (by kernel_rfl) (fun _ _ _ h => h) (Or.inr ⟨by rfl, rfl⟩) (by assumption) ?_
    try simp only [Act.put, List.setIfInBounds_toArray, List.set_cons_zero, List.set_cons_succ]
    refine take_l (i := 29) (v := undef) rfl (by kernel_rfl) (by kernel_rfl) (by kernel_rfl) (fun _ _ _ h => h) (Or.inr ⟨by rfl, rfl⟩) (by assumption) ?_
    try simp only [Act.put, List.setIfInBounds_toArray, List.set_cons_zero, List.set_cons_succ]
    refine take_l (i := 30) (v := undef) rfl (by kernel_rfl) (by kernel_rfl) (by kernel_rfl) (fun _ _ _ h => h) (Or.inr ⟨by rfl, rfl⟩) (by assumption) ?_
    try simp only [Act.put, List.setIfInBounds_toArray, List.set_cons_zero, List.set_cons_succ]
    refine take_l (i := 31) (v := undef) rfl (by kernel_rfl) (by kernel_rfl) (by kernel_rfl) (fun _ _ _ h => h) (Or.inr ⟨by rfl, rfl⟩) (by assumption) ?_
    try simp only [Act.put, List.setIfInBounds_toArray, List.set_cons_zero, List.set_cons_succ]
    refine take_l (i := 32) (v := undef) rfl (by kernel_rfl) (by kernel_rfl) (by kernel_rfl) (fun _ _ _ h => h) (Or.inr ⟨by rfl, rfl⟩) (by assumption) ?_
    try simp only [Act.put, List.setIfInBounds_toArray, List.set_cons_zero, List.set_cons_succ]
    refine take_l (i := 33) (v := undef) rfl (by kernel_rfl) (by kernel_rfl) (by kernel_rfl) (fun _ _ _ h => h) (Or.inr ⟨by rfl, rfl⟩) (by assumption) ?_
    try simp only [Act.put, List.setIfInBounds_toArray, List.set_cons_zero, List.set_cons_succ]
    refine take_l (i := 34) (v := undef) rfl (by kernel_rfl) (by kernel_rfl) (by kernel_rfl) (fun _ _ _ h => h) (Or.inr ⟨by rfl, rfl⟩) (by assumption) ?_
    try simp only [Act.put, List.setIfInBounds_toArray, List.set_cons_zero, List.set_cons_succ]
    refine take_l (i := 35) (v := .bool true) rfl (by kernel_rfl) (by kernel_rfl) (by kernel_rfl) (fun _ _ _ h => h) (Or.inl ⟨by rfl, ?hy⟩) (by assumption) ?_
    case hy => (intro w hSw; (try dsimp only at hSw); go_simp)
    try simp only [Act.put, List.setIfInBounds_toArray, List.set_cons_zero, List.set_cons_succ]
    refine wpAnyH_done (by kernel_rfl) ?_ _
    all_goals
      have hkw := ((hk02.trans ((Keeps.refl _ _).drew)).trans (hkN hk3)).trans (hkW hk4)
      go_wp2_with fail
      go_ret
      rw [HE.out]
      exact ⟨.inr ⟨rfl, rfl, hW4⟩, hkw⟩
  | true =>
    obtain ⟨r2, hr2⟩ : ∃ r2, r2 = Wal.wr r1.1 L.half (L.fin + 8) [1] := ⟨_, rfl⟩
    have HE : Hid (r = r2) := by show _ = _; rw [HR.out, Wal.andThen_yes hok, hr2]
    have Hr2 := Lib.hid hr2
    have hw8 : IntKind.i64.wrap ((L.fin : Int) + 8) = (L.fin : Int) + 8 := by rw [IntKind.wrap_i64]; omega
    clear hr2
    go_enter Try.func47, Try.ntmps47
    go_wp2_with fail
    refine (cost_ok n hn hn2 w).mono ?_
    rintro e w' ⟨rfl, rfl⟩
    rw [← HM.out]
    go_wp2_with fail
    refine (alive_yes F b p g d L w hW Hd.out Hup.out).mono ?_
    rintro e w1 ⟨rfl, hW1, hk1⟩
    go_wp2_with fail
    refine (room_any F b p g d L (by omega) w1 hW1).mono ?_
    rintro e w2 ⟨rfl, hk2⟩
    rw [← HRM.out]
    have hk02 := (hkS hk1).trans (hkN hk2)
    have hWD := (hW1.keepN hk2).keepN ((Keeps.refl _ _).drew)
    have hrD := (hr.keep hk02 fun _ a ha => hA a ha).keepN ((Keeps.refl Non w2).drew)
    obtain ⟨v, vs, hlD⟩ := hWD.log
    have sD : w2.drew.cell? ⟨b, 1, none⟩ = some (.int .i64 (L.half : Int)) ∧ w2.drew.cell? ⟨b, 2, none⟩ = some (.int .i64 (L.gen : Int)) ∧ w2.drew.cell? ⟨b, 3, none⟩ = some (.int .i64 (L.fin : Int)) := ⟨hlD.cells.c1, hlD.cells.c2, hlD.cells.c3⟩
    clear hlD hk1 hk2 hW1
    go_wp2_with fail
    refine wp_region_held_drew (S := (fun w' => w'.cell? ⟨b, 1, none⟩ = some (.int .i64 (L.half : Int)) ∧ w'.cell? ⟨b, 2, none⟩ = some (.int .i64 (L.gen : Int)) ∧ w'.cell? ⟨b, 3, none⟩ = some (.int .i64 (L.fin : Int)))) (by kernel_rfl) sD (fun hHeld => ?_)
    refine take_l (i := 0) (v := .pointer (some ⟨b, 0, none⟩)) rfl (by kernel_rfl) (by kernel_rfl) (by kernel_rfl) (fun _ _ _ h => h) (Or.inl ⟨by rfl, ?hy⟩) (by assumption) ?_
    case hy => (intro w hSw; (try dsimp only at hSw); go_simp)
    try simp only [Act.put, List.setIfInBounds_toArray, List.set_cons_zero, List.set_cons_succ]
    refine take_l (i := 1) (v := .pointer (some ⟨b, 0, none⟩)) rfl (by kernel_rfl) (by kernel_rfl) (by kernel_rfl) (fun _ _ _ h => h) (Or.inl ⟨by rfl, ?hy⟩) (by assumption) ?_
    case hy => (intro w hSw; (try dsimp only at hSw); go_simp)
    try simp only [Act.put, List.setIfInBounds_toArray, List.set_cons_zero, List.set_cons_succ]
    refine take_l (i := 2) (v := .pointer (some ⟨b, 0, none⟩)) rfl (by kernel_rfl) (by kernel_rfl) (by kernel_rfl) (fun _ _ _ h => h) (Or.inl ⟨by rfl, ?hy⟩) (by assumption) ?_
    case hy => (intro w hSw; (try dsimp only at hSw); go_simp)
    try simp only [Act.put, List.setIfInBounds_toArray, List.set_cons_zero, List.set_cons_succ]
    refine take_l (i := 3) (v := .pointer (some ⟨b, 1, none⟩)) rfl (by kernel_rfl) (by kernel_rfl) (by kernel_rfl) (fun _ _ _ h => h) (Or.inl ⟨by rfl, ?hy⟩) (by assumption) ?_
    case hy => (intro w hSw; (try dsimp only at hSw); go_simp)
    try simp only [Act.put, List.setIfInBounds_toArray, List.set_cons_zero, List.set_cons_succ]
    refine take_l (i := 4) (v := .int .i64 (L.half : Int)) rfl (by kernel_rfl) (by kernel_rfl) (by kernel_rfl) (fun _ _ _ h => h) (Or.inl ⟨by rfl, ?hy⟩) (by assumption) ?_
    case hy => (intro w hSw; (try dsimp only at hSw); go_simp)
    try simp only [Act.put, List.setIfInBounds_toArray, List.set_cons_zero, List.set_cons_succ]
    refine take_l (i := 5) (v := .pointer (some ⟨b, 0, none⟩)) rfl (by kernel_rfl) (by kernel_rfl) (by kernel_rfl) (fun _ _ _ h => h) (Or.inl ⟨by rfl, ?hy⟩) (by assumption) ?_
    case hy => (intro w hSw; (try dsimp only at hSw); go_simp)
    try simp only [Act.put, List.setIfInBounds_toArray, List.set_cons_zero, List.set_cons_succ]
    refine take_l (i := 6) (v := .pointer (some ⟨b, 0, none⟩)) rfl (by kernel_rfl) (by kernel_rfl) (by kernel_rfl) (fun _ _ _ h => h) (Or.inl ⟨by rfl, ?hy⟩) (by assumption) ?_
    case hy => (intro w hSw; (try dsimp only at hSw); go_simp)
    try simp only [Act.put, List.setIfInBounds_toArray, List.set_cons_zero, List.set_cons_succ]
    refine take_l (i := 7) (v := .pointer (some ⟨b, 3, none⟩)) rfl (by kernel_rfl) (by kernel_rfl) (by kernel_rfl) (fun _ _ _ h => h) (Or.inl ⟨by rfl, ?hy⟩) (by assumption) ?_
    case hy => (intro w hSw; (try dsimp only at hSw); go_simp)
    try simp only [Act.put, List.setIfInBounds_toArray, List.set_cons_zero, List.set_cons_succ]
    refine take_l (i := 8) (v := .int .i64 (L.fin : Int)) rfl (by kernel_rfl) (by kernel_rfl) (by kernel_rfl) (fun _ _ _ h => h) (Or.inl ⟨by rfl, ?hy⟩) (by assumption) ?_
    case hy => (intro w hSw; (try dsimp only at hSw); go_simp)
    try simp only [Act.put, List.setIfInBounds_toArray, List.set_cons_zero, List.set_cons_succ]
    refine take_l (i := 9) (v := .pointer (some ⟨b, 0, none⟩)) rfl (by kernel_rfl) (by kernel_rfl) (by kernel_rfl) (fun _ _ _ h => h) (Or.inl ⟨by rfl, ?hy⟩) (by assumption) ?_
    case hy => (intro w hSw; (try dsimp only at hSw); go_simp)
    try simp only [Act.put, List.setIfInBounds_toArray, List.set_cons_zero, List.set_cons_succ]
    refine take_l (i := 10) (v := .pointer (some ⟨b, 0, none⟩)) rfl (by kernel_rfl) (by kernel_rfl) (by kernel_rfl) (fun _ _ _ h => h) (Or.inl ⟨by rfl, ?hy⟩) (by assumption) ?_
    case hy => (intro w hSw; (try dsimp only at hSw); go_simp)
    try simp only [Act.put, List.setIfInBounds_toArray, List.set_cons_zero, List.set_cons_succ]
    refine take_l (i := 11) (v := .pointer (some ⟨b, 2, none⟩)) rfl (by kernel_rfl) (by kernel_rfl) (by kernel_rfl) (fun _ _ _ h => h) (Or.inl ⟨by rfl, ?hy⟩) (by assumption) ?_
    case hy => (intro w hSw; (try dsimp only at hSw); go_simp)
    try simp only [Act.put, List.setIfInBounds_toArray, List.set_cons_zero, List.set_cons_succ]
    refine take_l (i := 12) (v := .int .i64 (L.gen : Int)) rfl (by kernel_rfl) (by kernel_rfl) (by kernel_rfl) (fun _ _ _ h => h) (Or.inl ⟨by rfl, ?hy⟩) (by assumption) ?_
    case hy => (intro w hSw; (try dsimp only at hSw); go_simp)
    try simp only [Act.put, List.setIfInBounds_toArray, List.set_cons_zero, List.set_cons_succ]
    refine take_l (i := 13) (v := .pointer (some ⟨b, 0, none⟩)) rfl (by kernel_rfl) (by kernel_rfl) (by kernel_rfl) (fun _ _ _ h => h) (Or.inl ⟨by rfl, ?hy⟩) (by assumption) ?_
    case hy => (intro w hSw; (try dsimp only at hSw); go_simp)
    try simp only [Act.put, List.setIfInBounds_toArray, List.set_cons_zero, List.set_cons_succ]
    refine take_l (i := 14) (v := .pointer (some ⟨b, 0, none⟩)) rfl (by kernel_rfl) (by kernel_rfl) (by kernel_rfl) (fun _ _ _ h => h) (Or.inl ⟨by rfl, ?hy⟩) (by assumption) ?_
    case hy => (intro w hSw; (try dsimp only at hSw); go_simp)
    try simp only [Act.put, List.setIfInBounds_toArray, List.set_cons_zero, List.set_cons_succ]
    refine take_l (i := 15) (v := .pointer (some ⟨b, 3, none⟩)) rfl (by kernel_rfl) (by kernel_rfl) (by kernel_rfl) (fun _ _ _ h => h) (Or.inl ⟨by rfl, ?hy⟩) (by assumption) ?_
    case hy => (intro w hSw; (try dsimp only at hSw); go_simp)
    try simp only [Act.put, List.setIfInBounds_toArray, List.set_cons_zero, List.set_cons_succ]
    refine take_l (i := 16) (v := .int .i64 (L.fin : Int)) rfl (by kernel_rfl) (by kernel_rfl) (by kernel_rfl) (fun _ _ _ h => h) (Or.inl ⟨by rfl, ?hy⟩) (by assumption) ?_
    case hy => (intro w hSw; (try dsimp only at hSw); go_simp)
    try simp only [Act.put, List.setIfInBounds_toArray, List.set_cons_zero, List.set_cons_succ]
    refine take_l (i := 17) (v := .slice A n c) rfl (by kernel_rfl) (by kernel_rfl) (by kernel_rfl) (fun _ _ _ h => h) (Or.inl ⟨by rfl, ?hy⟩) (by assumption) ?_
    case hy => (intro w hSw; (try dsimp only at hSw); go_simp)
    try simp only [Act.put, List.setIfInBounds_toArray, List.set_cons_zero, List.set_cons_succ]
    refine wpAnyH_ready (rs := [18]) (by kernel_rfl) (by simp) ?_
    refine cons_l rfl (fun K hK => ?_) AllReadyH.nil
    go_simp
    refine (record_any L.gen L.fin hg (by omega) A n c bs 0 (by omega) _ hrD).mono ?_
    rintro e w3 ⟨u, rfl, hu, hk3⟩
    rw [← Hrec.out, hrl.out] at hu
    obtain ⟨Au, cu, rfl, hru, hbu, hnu, hcu⟩ := own_rdB hu (by omega)
    have hW3 := hWD.keepN hk3
    obtain ⟨v3, vs3, hl3⟩ := hW3.log
    have s3 : w3.cell? ⟨b, 1, none⟩ = some (.int .i64 (L.half : Int)) ∧ w3.cell? ⟨b, 2, none⟩ = some (.int .i64 (L.gen : Int)) ∧ w3.cell? ⟨b, 3, none⟩ = some (.int .i64 (L.fin : Int)) := ⟨hl3.cells.c1, hl3.cells.c2, hl3.cells.c3⟩
    clear hl3
    go_wp2_with fail
    refine hK.out _ _ s3 (fun hHeld => ?_)
    clear hK K
    try simp only [Act.put, List.setIfInBounds_toArray, List.set_cons_zero, List.set_cons_succ]
    refine wpAnyH_ready (rs := [19]) (by kernel_rfl) (by simp) ?_
    refine cons_l rfl (fun K hK => ?_) AllReadyH.nil
    go_simp
    refine (lwrite_any F b p g d L L.half L.fin hh Au m cu rec (by rw [hrl.out]; omega) _ hW3 Hd.out hru hnu).mono ?_
    rintro e w4 ⟨rfl, hW4, hk4⟩
    rw [← Hr1.out] at hW4 ⊢
    rw [hok] at hW4 ⊢
    rw [die_true Hd.out] at hW4
    obtain ⟨v4, vs4, hl4⟩ := hW4.log
    have s4 : w4.cell? ⟨b, 1, none⟩ = some (.int .i64 (L.half : Int)) ∧ w4.cell? ⟨b, 2, none⟩ = some (.int .i64 (L.gen : Int)) ∧ w4.cell? ⟨b, 3, none⟩ = some (.int .i64 (L.fin : Int)) := ⟨hl4.cells.c1, hl4.cells.c2, hl4.cells.c3⟩
    have hkB : Keeps Non w4 (w4.alloc (.cells #[.int .u8 1] 5)) := (Keeps.refl _ _).alloc _
    have hrB : RdB (w4.alloc (.cells #[.int .u8 1] 5)) (some ⟨w4.heap.size, 0, none⟩) 1 [1] := RdB.of_whole (heap_new _ _) rfl rfl (by decide)
    have hW5 := hW4.keepN hkB
    have hl5 := hl4.keep hkB (fun _ _ h => h)
    have s5 : (w4.alloc (.cells #[.int .u8 1] 5)).cell? ⟨b, 1, none⟩ = some (.int .i64 (L.half : Int)) ∧ (w4.alloc (.cells #[.int .u8 1] 5)).cell? ⟨b, 2, none⟩ = some (.int .i64 (L.gen : Int)) ∧ (w4.alloc (.cells #[.int .u8 1] 5)).cell? ⟨b, 3, none⟩ = some (.int .i64 (L.fin : Int)) := ⟨hl5.cells.c1, hl5.cells.c2, hl5.cells.c3⟩
    clear hl4 hl5
    go_wp2_with fail
    refine hK.out _ _ s4 (fun hHeld => ?_)
    clear hK K
    try simp only [Act.put, List.setIfInBounds_toArray, List.set_cons_zero, List.set_cons_succ]
    refine take_l (i := 20) (v := .bool false) rfl (by kernel_rfl) (by kernel_rfl) (by kernel_rfl) (fun _ _ _ h => h) (Or.inl ⟨by rfl, ?hy⟩) (by assumption) ?_
    case hy => (intro w hSw; (try dsimp only at hSw); go_simp)
    try simp only [Act.put, List.setIfInBounds_toArray, List.set_cons_zero, List.set_cons_succ]
    refine take_l (i := 21) (v := .bool false) rfl (by kernel_rfl) (by kernel_rfl) (by kernel_rfl) (fun _ _ _ h => h) (Or.inl ⟨by rfl, ?hy⟩) (by assumption) ?_
    case hy => (intro w hSw; (try dsimp only at hSw); go_simp)
    try simp only [Act.put, List.setIfInBounds_toArray, List.set_cons_zero, List.set_cons_succ]
    refine take_l (i := 22) (v := .pointer (some ⟨b, 0, none⟩)) rfl (by kernel_rfl) (by kernel_rfl) (by kernel_rfl) (fun _ _ _ h => h) (Or.inl ⟨by rfl, ?hy⟩) (by assumption) ?_
    case hy => (intro w hSw; (try dsimp only at hSw); go_simp)
    try simp only [Act.put, List.setIfInBounds_toArray, List.set_cons_zero, List.set_cons_succ]
    refine take_l (i := 23) (v := .pointer (some ⟨b, 0, none⟩)) rfl (by kernel_rfl) (by kernel_rfl) (by kernel_rfl) (fun _ _ _ h => h) (Or.inl ⟨by rfl, ?hy⟩) (by assumption) ?_
    case hy => (intro w hSw; (try dsimp only at hSw); go_simp)
    try simp only [Act.put, List.setIfInBounds_toArray, List.set_cons_zero, List.set_cons_succ]
    refine take_l (i := 24) (v := .pointer (some ⟨b, 0, none⟩)) rfl (by kernel_rfl) (by kernel_rfl) (by kernel_rfl) (fun _ _ _ h => h) (Or.inl ⟨by rfl, ?hy⟩) (by assumption) ?_
    case hy => (intro w hSw; (try dsimp only at hSw); go_simp)
    try simp only [Act.put, List.setIfInBounds_toArray, List.set_cons_zero, List.set_cons_succ]
    refine take_l (i := 25) (v := .pointer (some ⟨b, 1, none⟩)) rfl (by kernel_rfl) (by kernel_rfl) (by kernel_rfl) (fun _ _ _ h => h) (Or.inl ⟨by rfl, ?hy⟩) (by assumption) ?_
    case hy => (intro w hSw; (try dsimp only at hSw); go_simp)
    try simp only [Act.put, List.setIfInBounds_toArray, List.set_cons_zero, List.set_cons_succ]
    refine take_l (i := 26) (v := .int .i64 (L.half : Int)) rfl (by kernel_rfl) (by kernel_rfl) (by kernel_rfl) (fun _ _ _ h => h) (Or.inl ⟨by rfl, ?hy⟩) (by assumption) ?_
    case hy => (intro w hSw; (try dsimp only at hSw); go_simp)
    try simp only [Act.put, List.setIfInBounds_toArray, List.set_cons_zero, List.set_cons_succ]
    refine take_l (i := 27) (v := .pointer (some ⟨b, 0, none⟩)) rfl (by kernel_rfl) (by kernel_rfl) (by kernel_rfl) (fun _ _ _ h => h) (Or.inl ⟨by rfl, ?hy⟩) (by assumption) ?_
    case hy => (intro w hSw; (try dsimp only at hSw); go_simp)
    try simp only [Act.put, List.setIfInBounds_toArray, List.set_cons_zero, List.set_cons_succ]
    refine take_l (i := 28) (v := .pointer (some ⟨b, 0, none⟩)) rfl (by kernel_rfl) (by kernel_rfl) (by kernel_rfl) (fun _ _ _ h => h) (Or.inl ⟨by rfl, ?hy⟩) (by assumption) ?_
    case hy => (intro w hSw; (try dsimp only at hSw); go_simp)
    try simp only [Act.put, List.setIfInBounds_toArray, List.set_cons_zero, List.set_cons_succ]
    refine take_l (i := 29) (v := .pointer (some ⟨b, 3, none⟩)) rfl (by kernel_rfl) (by kernel_rfl) (by kernel_rfl) (fun _ _ _ h => h) (Or.inl ⟨by rfl, ?hy⟩) (by assumption) ?_
    case hy => (intro w hSw; (try dsimp only at hSw); go_simp)
    try simp only [Act.put, List.setIfInBounds_toArray, List.set_cons_zero, List.set_cons_succ]
    refine take_l (i := 30) (v := .int .i64 (L.fin : Int)) rfl (by kernel_rfl) (by kernel_rfl) (by kernel_rfl) (fun _ _ _ h => h) (Or.inl ⟨by rfl, ?hy⟩) (by assumption) ?_
    case hy => (intro w hSw; (try dsimp only at hSw); go_simp)
    try simp only [Act.put, List.setIfInBounds_toArray, List.set_cons_zero, List.set_cons_succ]
    refine take_l (i := 31) (v := .int .i64 ((L.fin : Int) + 8)) rfl (by kernel_rfl) (by kernel_rfl) (by kernel_rfl) (fun _ _ _ h => h) (Or.inl ⟨by rfl, ?hy⟩) (by assumption) ?_
    case hy => (intro w hSw; (try dsimp only at hSw); go_simp)
    try simp only [Act.put, List.setIfInBounds_toArray, List.set_cons_zero, List.set_cons_succ]
    refine wpAnyH_ready (rs := [32]) (by kernel_rfl) (by simp) ?_
    refine cons_l rfl (fun K hK => ?_) AllReadyH.nil
    go_simp
    go_wp2_with fail
    refine hK.out _ _ s5 (fun hHeld => ?_)
    clear hK K
    try simp only [Act.put, List.setIfInBounds_toArray, List.set_cons_zero, List.set_cons_succ]
    refine wpAnyH_ready (rs := [33]) (by kernel_rfl) (by simp) ?_
    refine cons_l rfl (fun K hK => ?_) AllReadyH.nil
    go_simp
    refine (lwrite_any F b p g r1.1 L L.half (L.fin + 8) hh _ 1 1 [1] (by rw [hz1]; simp; omega) _ hW5 Hd.out hrB (Nat.le_refl _)).mono ?_
    rintro e w6 ⟨rfl, hW6, hk6⟩
    rw [← Hr2.out] at hW6 ⊢
    obtain ⟨v6, vs6, hl6⟩ := hW6.log
    have s6 : w6.cell? ⟨b, 1, none⟩ = some (.int .i64 (L.half : Int)) ∧ w6.cell? ⟨b, 2, none⟩ = some (.int .i64 (L.gen : Int)) ∧ w6.cell? ⟨b, 3, none⟩ = some (.int .i64 (L.fin : Int)) := ⟨hl6.cells.c1, hl6.cells.c2, hl6.cells.c3⟩
    clear hl6
    go_wp2_with fail
    refine hK.out _ _ s6 (fun hHeld => ?_)
    clear hK K
    try simp only [Act.put, List.setIfInBounds_toArray, List.set_cons_zero, List.set_cons_succ]
    refine take_l (i := 34) (v := .bool (!r2.2)) rfl (by kernel_rfl) (by kernel_rfl) (by kernel_rfl) (fun _ _ _ h => h) (Or.inl ⟨by rfl, ?hy⟩) (by assumption) ?_
    case hy => (intro w hSw; (try dsimp only at hSw); go_simp)
    try simp only [Act.put, List.setIfInBounds_toArray, List.set_cons_zero, List.set_cons_succ]
    refine take_l (i := 35) (v := .bool (!r2.2)) rfl (by kernel_rfl) (by kernel_rfl) (by kernel_rfl) (fun _ _ _ h => h) (Or.inl ⟨by rfl, ?hy⟩) (by assumption) ?_
    case hy => (intro w hSw; (try dsimp only at hSw); go_simp)
    try simp only [Act.put, List.setIfInBounds_toArray, List.set_cons_zero, List.set_cons_succ]
    refine wpAnyH_done (by kernel_rfl) ?_ _
    have hkw := (((hk02.trans ((Keeps.refl _ _).drew)).trans (hkN hk3)).trans (hkW hk4)).trans ((hkN hkB).trans (hkW hk6))
    clear hk02 hk3 hk4 hk6 hkB hrB hW5 s5 hW4 hW3 hru hrD hWD sD s3 s4 hu
    cases hok2 : r2.2 with
    | false =>
      rw [hok2] at hW6
      go_wp2_with fail
      go_ret
      rw [HE.out]
      exact ⟨.inr ⟨hok2, rfl, hW6⟩, hkw⟩
    | true =>
      rw [hok2, die_true Hd.out] at hW6
      obtain ⟨i0, hi0, hz0, hs0, hb0⟩ := info_sl'
      have hW7 := hW6.keepN ((Keeps.refl _ _).drew)
      have hr7 := (hr.keep hkw fun _ a ha => hA a ha).keepN ((Keeps.refl Non w6).drew)
      obtain ⟨v7, vs7, hl7⟩ := hW7.log
      have c47 : w6.drew.cell? ⟨b, 4, none⟩ = some v7 := hl7.cells.c4
      have hfacts : ∀ w8 : World, Keeps Non w6.drew w8 → w8.cell? ⟨b, 4, none⟩ = some v7 := fun w8 hk => hk.cell c47 id
      go_wp2_with fail
      go_region_law (first
        | (refine step_append_lies _ (by rfl) _ _ _ (by rfl) 0 22 i0 (.slice none 0 0) 1 24 Try.underlying28 hi0 hz0 hs0 hb0 rfl (by omega) v7 L.recs.length vs7 (by rfl) hownA ⟨w8.heap.size, 0, none⟩ 1 1 [.slice Au bs.length cu] (by rfl) rfl (World.news_of_block (heap_new _ _)) (fun u hu => by simp at hu; subst hu; rfl) (by omega) (by unfold maxLen; omega) (by omega) (Nat.zero_le _) (w8.heap.size + 1) (by simp) ?_; intro gg cap w9 hown hgrow hor hlt; have hpush := hl8.push (x := bs) ((Keeps.refl Non _).alloc _) (hru.keepN ((Keeps.refl Non _).alloc _)) (by rw [hr.len]; omega) (fun a ha hF => (by have := hW7.old _ hF; have := hAu a ha; omega)) hown hgrow (by rcases hor with h | h; exact .inl h; exact .inr (by simpa using h)) hlt (by omega); have hkg : Keeps (fun k => some k = v7.ownBlock) w8 w9 := (((Keeps.refl Non _).alloc _).mono (fun _ _ h => h.elim)).trans (Keeps.of_grown hgrow); have q9 := hl8.cells.keep hkg (fun e => (hl8.row b e.symm).2 rfl); have e39 : w9.cell? ⟨b, 3, none⟩ = some (.int .i64 (L.fin : Int)) := q9.c3; have e49 : w9.cell? ⟨b, 4, none⟩ = some v7 := q9.c4; have hst9 : w9.heap[b]? = some _ := hkg.at_ hl8.st (fun e => (hl8.row b e.symm).2 rfl); have f39 := free hst9 3; have f49 := free hst9 4; have HO := Lib.hid hor; clear hown hgrow hor q9 hst9)
        | (go_simp; go_at_call 73; refine (clone_own A n c bs _ hr7).mono ?_; rintro e w8 ⟨u, rfl, hu, hk8⟩; obtain ⟨Au, cu, rfl, hru, hbu, hnu, hcu⟩ := own_rdB hu (by rw [hr.len]; omega); have hAu : ∀ a, Au = some a → w6.drew.heap.size ≤ a.block := (fun a ha => own_ge hu _ (hbu a ha)); have c48 := hfacts w8 hk8; have c49 := hfacts (w8.alloc (.cells #[.slice Au bs.length cu] 22)) (hk8.alloc _); have hl8 := hl7.keep hk8 (fun _ _ h => h); have hownA : (w8.alloc (.cells #[.slice Au bs.length cu] 22)).ownsRow 0 22 1 v7 L.recs.length vs7 := own_kept hl8.own ((Keeps.refl Non _).alloc _) (fun _ _ h => h)))
      all_goals
        have hfe : (((L.added bs).fin : Nat) : Int) = (L.fin : Int) + (m : Int) := by
          show ((L.fin + (9 + bs.length) : Nat) : Int) = _
          have := hr.len
          have := HM.out
          omega
        have hl10 : ∃ v vs, LogAt' ((w9.setCell ⟨b, 4, none⟩ (.slice (some ⟨gg, 0, none⟩) (L.recs.length + 1) cap)).setCell ⟨b, 3, none⟩ (.int .i64 ((L.fin : Int) + (m : Int)))) (More F gg Au) b p (L.added bs) v vs := by
          rw [← hfe]
          exact ⟨_, _, hpush.1.turn (L' := L.added bs) ((Keeps.refl _ _).set1 3 _) (setCell_row _ b 3 _ _ _ hpush.1.st _) rfl⟩
        have hkp : Keeps (fun k => k = p ∨ k = g ∨ F k) w ((w9.setCell ⟨b, 4, none⟩ (.slice (some ⟨gg, 0, none⟩) (L.recs.length + 1) cap)).setCell ⟨b, 3, none⟩ (.int .i64 ((L.fin : Int) + (m : Int)))) :=
          (((hkw.drew).trans (hkN hk8)).trans (hpush.2.mono fun k _ h => .inr (.inr h))).setCell (fun _ => .inr (.inr hbF)) _
        have hD10 := hW7.disk.keep ((hk8.mono (T := F) fun _ _ h => h.elim).trans hpush.2 |>.setCell (p := ⟨b, 3, none⟩) (fun _ => hbF) (.int .i64 ((L.fin : Int) + (m : Int)))) hW.fp hW.fg
        have hM10 : ∀ k, More F gg Au k → F k ∨ w.heap.size ≤ k := by
          intro k hk
          have s1 := hkw.size
          have s2 := hk8.size
          have s3 : w6.drew.heap.size = w6.heap.size := rfl
          rcases hk with hk | hk | ⟨a, ha, rfl⟩
          · exact .inl hk
          · subst hk
            rcases HO.out with h | h
            · exact .inl (hl8.row _ h).1
            · right; omega
          · right; have := hAu a ha; omega
        have hpg := hW.disk.lt
        have hMp : ¬ More F gg Au p := fun h => by rcases hM10 p h with h | h; exact hW.fp h; omega
        have hMg : ¬ More F gg Au g := fun h => by rcases hM10 g h with h | h; exact hW.fg h; omega
        have H10 := Lib.hid hl10
        have K10 := Lib.hid hkp
        have D10 := Lib.hid hD10
        clear hl10 hkp hD10 hpush hfe hkg
        go_wp2_with fail
        go_ret
        rw [HE.out]
        exact ⟨.inl ⟨hok2, rfl, More F gg Au, ⟨D10.out, H10.out, hMp, hMg⟩, hM10⟩, K10.out⟩
end Go.Proofs.Ytbmamhcjbhnkiaa
