/- Layer 8: a play's steps as they came in; the walks of mild, Cost and told. -/
import Derived.Test.YtbmamhcjbhnkiaaKyo
namespace Go.Proofs.Ytbmamhcjbhnkiaa
open Go.RowKit

/-- A step of a log's play, as it came in. -/
structure O8 where
  k : Int
  t : Int
  n : Int
  da : Option Addr
  dl : Nat
  dc : Nat
  dz : List Int
  aa : Option Addr
  al : Nat
  ac : Nat
  A : Nat → Option Addr
  L : Nat → Nat
  C : Nat → Nat
  Z : Nat → List Int
def O8.cells (o : O8) : List Value := [.int .i64 o.k, .int .i64 o.t, .int .i64 o.n, .slice o.da o.dl o.dc, .slice o.aa o.al o.ac]
structure IsO8 (w : World) (o : O8) : Prop where
  wk : (Lit.int .i64 o.k).wf = true
  wt : (Lit.int .i64 o.t).wf = true
  wn : (Lit.int .i64 o.n).wf = true
  d : IsRow .u8 w o.da o.dl o.dc o.dz
  a : IsRows .u8 w o.aa o.al o.ac o.A o.L o.C o.Z
def IsOps8 (w : World) (a : Option Addr) (len cap : Nat) (Y : Nat → O8) : Prop := IsStr w a len cap 5 (fun i j => (Y i).cells.getD j undef) ∧ ∀ i, i < len → IsO8 w (Y i)
structure Cells5 (w : World) (b off : Nat) (o : O8) : Prop where
  e0 : w.cell? ⟨b, off, none⟩ = some (.int .i64 o.k)
  e1 : w.cell? ⟨b, off + 1, none⟩ = some (.int .i64 o.t)
  e2 : w.cell? ⟨b, off + 2, none⟩ = some (.int .i64 o.n)
  e3 : w.cell? ⟨b, off + 3, none⟩ = some (.slice o.da o.dl o.dc)
  e4 : w.cell? ⟨b, off + 4, none⟩ = some (.slice o.aa o.al o.ac)
theorem IsOps8.at_ {w : World} {a : Option Addr} {len cap : Nat} {Y : Nat → O8} (h : IsOps8 w a len cap Y) {i : Nat} (hi : i < len) : ∃ b off, a = some ⟨b, off, none⟩ ∧ Cells5 w b (off + i * 5) (Y i) ∧ IsO8 w (Y i) := by
  obtain ⟨b, off, rfl, hc⟩ := h.1.place (by omega) (by omega)
  have e0 := hc i hi 0 (by omega)
  have e1 := hc i hi 1 (by omega)
  have e2 := hc i hi 2 (by omega)
  have e3 := hc i hi 3 (by omega)
  have e4 := hc i hi 4 (by omega)
  rw [Nat.add_zero] at e0
  rw [← Nat.add_assoc] at e1 e2 e3 e4
  exact ⟨b, off, rfl, ⟨e0, e1, e2, e3, e4⟩, h.2 i hi⟩
theorem Cells5.keep {S : Nat → Prop} {w w' : World} {b off : Nat} {o : O8} (h : Cells5 w b off o) (hk : Keeps S w w') (hb : ¬ S b) : Cells5 w' b off o :=
  ⟨hk.cell h.e0 hb, hk.cell h.e1 hb, hk.cell h.e2 hb, hk.cell h.e3 hb, hk.cell h.e4 hb⟩
theorem cells5 {w : World} {b : Nat} {o : O8} {e : TypeId} {fr : Nat × Nat} (h : w.heap[b]? = some (.cells o.cells.toArray e fr)) : Cells5 w b 0 o := by
  constructor <;> simp [World.cell?, h, O8.cells]

/-- The steps are small enough. -/
def Mild (Y : Nat → O8) (len : Nat) : Prop := len ≤ 40 ∧ ∀ i, i < len → (Y i).dl ≤ 300 ∧ (Y i).al ≤ 8 ∧ ∀ r, r < (Y i).al → (Y i).L r ≤ 300

def RetMild (w : World) (Y : Nat → O8) (len : Nat) (e : Ending) (w' : World) : Prop := (∃ ok : Bool, e = .returned (.bool ok) ∧ (ok = true → Mild Y len)) ∧ Keeps Non w w'
set_option maxHeartbeats 2000000 in
set_option maxRecDepth 100000 in
theorem mild_any (a : Option Addr) (len cap : Nat) (Y : Nat → O8) (w : World) (h : IsOps8 w a len cap Y) :
    Calls Try.prog 53 #[.slice a len cap] w (RetMild w Y len) := by
  have hlen := h.1.len_le
  go_enter Try.func53, Try.ntmps53
  go_wp2
  go_loopw [9] (fun i wr => ∃ k : Nat, k ≤ len ∧ i = .int .i64 k ∧ Keeps Non w wr ∧ ∀ j, j < k → (Y j).dl ≤ 300 ∧ (Y j).al ≤ 8 ∧ ∀ r, r < (Y j).al → (Y j).L r ≤ 300) (fun i _ => len - (intOf i).toNat)
  case atStart => exact ⟨0, Nat.zero_le _, rfl, Keeps.refl _ _, fun j h => by omega⟩
  case round =>
    obtain ⟨k, hk, rfl, hkw, hall⟩ := hrel
    by_cases hlt : k < len
    · obtain ⟨b, off, rfl, hc, hO⟩ := h.at_ hlt
      obtain ⟨o, ho⟩ : ∃ o, o = Y k := ⟨_, rfl⟩
      rw [← ho] at hc hO
      have HO := Lib.hid ho
      have hcw := hc.keep hkw id
      obtain ⟨e0, e1, e2, e3, e4⟩ := hcw
      have hd := hO.d.len_le
      have ha := hO.a.len_le
      have Hall := Lib.hid hall
      have hkA : Keeps Non wr (wr.alloc (.cells o.cells.toArray 89)) := (Keeps.refl _ _).alloc _
      have hcA := cells5 (heap_new wr (.cells o.cells.toArray 89))
      have hkwA := hkw.trans hkA
      have haA := hO.a
      obtain ⟨wA, hwA⟩ : ∃ wA, wA = wr.alloc (.cells #[.int .i64 o.k, .int .i64 o.t, .int .i64 o.n, .slice o.da o.dl o.dc, .slice o.aa o.al o.ac] 89) := ⟨_, rfl⟩
      have hwA2 : wr.alloc (.cells o.cells.toArray 89) = wA := hwA.symm
      rw [hwA2] at hkA hcA hkwA
      obtain ⟨u0, u1, u2, u3, u4⟩ := hcA
      have HWA := Lib.hid hwA
      clear ho hc hO hall hwA hwA2 hkw
      by_cases hbad : 300 < o.dl ∨ 8 < o.al
      · have hcases : 300 < o.dl ∨ (¬ 300 < o.dl ∧ 8 < o.al) := by omega
        clear hbad
        rcases hcases with q1 | ⟨q1, q2⟩
        all_goals
          go_wp2_with fail
          rw [← HWA.out]
          go_wp2_with fail
          go_ret
          exact ⟨⟨false, rfl, fun h => by cases h⟩, hkwA⟩
      · have q1 : ¬ 300 < o.dl := by omega
        have q2 : ¬ 8 < o.al := by omega
        clear hbad
        go_wp2_with fail
        rw [← HWA.out]
        go_wp2_with fail
        go_loop [26] (fun i => ∃ r : Nat, r ≤ o.al ∧ i = .int .i64 r ∧ ∀ j, j < r → o.L j ≤ 300) (fun i => o.al - (intOf i).toNat)
        case atStart => exact ⟨0, Nat.zero_le _, rfl, fun j h => by omega⟩
        case round =>
          obtain ⟨r, hr, rfl, hrows⟩ := hrel
          by_cases hlt2 : r < o.al
          · obtain ⟨b2, off2, hae, hrow⟩ := haA.place (by omega)
            obtain ⟨hcr, hir⟩ := hrow r hlt2
            have hcrw := hkwA.cell hcr id
            have hlr := hir.len_le
            have Hrows := Lib.hid hrows
            obtain ⟨lr, hlre⟩ : ∃ lr, lr = o.L r := ⟨_, rfl⟩
            rw [← hlre] at hcrw hlr
            rw [hae] at u4
            have HLR := Lib.hid hlre
            clear hcr hir hrow hrows hlre haA
            by_cases hb3 : 300 < lr
            · rw [hae]
              go_wp2_with fail
              go_ret
              exact ⟨⟨false, rfl, fun h => by cases h⟩, hkwA⟩
            · rw [hae]
              go_wp2_with fail
              go_round
              case rel => exact ⟨r + 1, by omega, by go_num, fun j hj => by
                rcases Nat.lt_or_ge j r with h | h
                · exact Hrows.out j h
                · obtain rfl : j = r := by omega
                  rw [← HLR.out]; omega⟩
              case measure => simp [intOf]; omega
          · obtain rfl : r = o.al := by omega
            have Hrows := Lib.hid hrows
            clear hrows haA
            go_wp2_with fail
            go_roundw
            case rel => exact ⟨k + 1, by omega, by go_num, hkwA, fun j hj => by
              rcases Nat.lt_or_ge j k with h | h
              · exact Hall.out j h
              · obtain rfl : j = k := by omega
                rw [← HO.out]
                exact ⟨by omega, by omega, Hrows.out⟩⟩
            case measure => simp [intOf]; omega
    · obtain rfl : k = len := by omega
      have Hall := Lib.hid hall
      clear hall
      by_cases h40 : k ≤ 40
      · have hd : decide ((k : Int) ≤ 40) = true := by simpa using (show (k : Int) ≤ 40 by omega)
        go_wp2
        go_ret
        exact ⟨⟨_, rfl, fun _ => ⟨h40, Hall.out⟩⟩, hkw⟩
      · have hd : decide ((k : Int) ≤ 40) = false := by simpa using (show ¬ (k : Int) ≤ 40 by omega)
        go_wp2
        go_ret
        exact ⟨⟨_, rfl, fun h => by first | omega | (simp at h; omega) | (simp at h)⟩, hkw⟩

/-- What the document says that records cost; -1: one can't be. -/
def rcost (ls : List (List UInt8)) : Int := if ∀ b ∈ ls, 1 ≤ b.length ∧ b.length ≤ 65536 then ((16 + Wal.cost ls : Nat) : Int) else -1
set_option maxRecDepth 100000 in
theorem rcost_any (A : Option Addr) (m c : Nat) (ls : List (List UInt8)) (hm2 : m ≤ 1048576) (w : World) (hr : RdL w A m ls) :
    Calls Try.prog 88 #[.slice A m c] w fun e w' => e = .returned (.int .i64 (rcost ls)) ∧ w = w' := by
  have hml := Lib.hid hr.len
  obtain ⟨z, hz⟩ : ∃ z, z = rcost ls := ⟨_, rfl⟩
  rw [← hz]
  have HZ := Lib.hid hz
  clear hz
  go_enter Try.func88, Try.ntmps88
  go_wp2
  go_loop [3, 4] (fun s i => ∃ k : Nat, k ≤ m ∧ i = .int .i64 k ∧ s = .int .i64 ((16 + Wal.cost (ls.take k) : Nat) : Int) ∧ Wal.cost (ls.take k) ≤ 65545 * k ∧ ∀ b ∈ ls.take k, 1 ≤ b.length ∧ b.length ≤ 65536) (fun _ i => m - (intOf i).toNat)
  case atStart => exact ⟨0, Nat.zero_le _, rfl, by simp [Wal.cost], by simp [Wal.cost], by simp⟩
  case round =>
    obtain ⟨k, hk, rfl, rfl, hcb, hall⟩ := hrel
    by_cases hlt : k < m
    · obtain ⟨bb, off, Aj, nj, cj, rfl, hck, hrk⟩ := hr.at_ k hlt
      have hlen : k < ls.length := by rw [hml.out]; exact hlt
      have hsn : ls.take (k + 1) = ls.take k ++ [ls[k]] := List.take_succ_eq_append_getElem hlen
      have hxl := hrk.len
      have hnle := hrk.le
      obtain ⟨s, hs⟩ : ∃ s, s = Wal.cost (ls.take k) := ⟨_, rfl⟩
      by_cases hn : 1 ≤ nj ∧ nj ≤ 65536
      · have HA : Hid (∀ b ∈ ls.take (k + 1), 1 ≤ b.length ∧ b.length ≤ 65536) := fun b hb => by
          rw [hsn] at hb
          rcases List.mem_append.1 hb with hb | hb
          · exact hall b hb
          · simp at hb; subst hb; rw [hxl]; exact hn
        have HC : Hid (Wal.cost (ls.take (k + 1)) = s + (9 + nj)) := by show _ = _; rw [hsn, Wal.cost_snoc, hxl, hs]
        obtain ⟨n1, n2⟩ := hn
        rw [← hs] at hcb ⊢
        clear hall hsn hrk hxl hs
        go_wp2
        go_round
        case rel => exact ⟨k + 1, by omega, by go_num, by rw [HC.out]; go_num, by rw [HC.out]; omega, HA.out⟩
        case measure => simp [intOf]; omega
      · have HE : Hid (z = -1) := by
          show _ = _
          rw [HZ.out]
          unfold rcost
          rw [if_neg]
          intro h
          have := h ls[k] (List.getElem_mem _)
          rw [hxl] at this
          exact hn this
        rw [← hs] at hcb ⊢
        have hcases : nj < 1 ∨ (¬ nj < 1 ∧ 65536 < nj) := by omega
        clear hall hsn hrk hxl hs hn
        rcases hcases with t1 | ⟨t1, t2⟩
        all_goals
          go_wp2
          go_ret
          rw [HE.out]
          exact ⟨rfl, rfl⟩
    · obtain rfl : k = m := by omega
      have H3 : Hid (ls.take k = ls) := by show ls.take k = ls; rw [List.take_of_length_le (by rw [hml.out]; omega)]
      rw [H3.out] at hall hcb ⊢
      have HE : Hid (z = ((16 + Wal.cost ls : Nat) : Int)) := by show _ = _; rw [HZ.out]; unfold rcost; rw [if_pos hall]
      obtain ⟨s, hs⟩ : ∃ s, s = Wal.cost ls := ⟨_, rfl⟩
      rw [← hs] at HE hcb ⊢
      clear hall hs
      go_wp2
      go_ret
      rw [HE.out]
      exact ⟨rfl, rfl⟩
end Go.Proofs.Ytbmamhcjbhnkiaa
