/- Layer 9: the walks of the reference's Put, Drop, Scan, Get, Same and Cost, and of listed. -/
import Derived.Test.YtbmamhcjbhnkiaaKzo
namespace Go.Proofs.Ytbmamhcjbhnkiaa
open Go.RowKit Go.Maps
open Kv (Bs Tab)

/-- A pair of the reference's in its cells. -/
def encR (p : Bs × Bs) : List Value := [sv p.1, sv p.2]
/-- A slice of the reference's pairs that is read; it lies in no block of Z. -/
structure RdR (Z : Nat → Prop) (w : World) (A : Option Addr) (n : Nat) (T : Tab) : Prop where
  len : T.length = n
  le : n ≤ 1048576
  cells : 0 < n → ∃ b off, A = some ⟨b, off, none⟩ ∧ ¬ Z b ∧ b < w.heap.size ∧ ∀ (j : Nat) (p : Bs × Bs), T[j]? = some p → w.cell? ⟨b, off + j * 2, none⟩ = some (sv p.1) ∧ w.cell? ⟨b, off + j * 2 + 1, none⟩ = some (sv p.2)
theorem RdR.nil (Z : Nat → Prop) (w : World) (A : Option Addr) : RdR Z w A 0 [] := ⟨rfl, by decide, fun h => absurd h (by decide)⟩
theorem RdR.keep {Z S : Nat → Prop} {w w' : World} {A : Option Addr} {n : Nat} {T : Tab} (h : RdR Z w A n T) (hk : Keeps S w w') (hS : ∀ k, S k → Z k) : RdR Z w' A n T :=
  ⟨h.len, h.le, fun h0 => by
    obtain ⟨b, off, e, hz, hl, hc⟩ := h.cells h0
    refine ⟨b, off, e, hz, Nat.lt_of_lt_of_le hl hk.size, fun j p hp => ?_⟩
    obtain ⟨h1, h2⟩ := hc j p hp
    exact ⟨hk.cell h1 (fun q => hz (hS _ q)), hk.cell h2 (fun q => hz (hS _ q))⟩⟩
theorem RdR.keepN {Z : Nat → Prop} {w w' : World} {A : Option Addr} {n : Nat} {T : Tab} (h : RdR Z w A n T) (hk : Keeps Non w w') : RdR Z w' A n T := h.keep hk fun _ q => q.elim
theorem RdR.below {Z : Nat → Prop} {w w' : World} {A : Option Addr} {n : Nat} {T : Tab} (h : RdR Z w A n T) (hk : Below w.heap.size w w') : RdR Z w' A n T := h.keepN (Keeps.of_below hk)
theorem RdR.grow {Z Z' : Nat → Prop} {w : World} {A : Option Addr} {n : Nat} {T : Tab} (h : RdR Z w A n T) (hz : ∀ k, Z' k → Z k ∨ w.heap.size ≤ k) : RdR Z' w A n T :=
  ⟨h.len, h.le, fun h0 => by
    obtain ⟨b, off, e, hb, hl, hc⟩ := h.cells h0
    exact ⟨b, off, e, fun q => by rcases hz _ q with r | r; exact hb r; omega, hl, hc⟩⟩
theorem RdR.at_ {Z : Nat → Prop} {w : World} {A : Option Addr} {n : Nat} {T : Tab} (h : RdR Z w A n T) {j : Nat} (hj : j < n) :
    ∃ b off p, A = some ⟨b, off, none⟩ ∧ T[j]? = some p ∧ w.cell? ⟨b, off + j * 2, none⟩ = some (sv p.1) ∧ w.cell? ⟨b, off + j * 2 + 1, none⟩ = some (sv p.2) := by
  obtain ⟨b, off, e, _, _, hc⟩ := h.cells (by omega)
  have hl : j < T.length := by rw [h.len]; exact hj
  obtain ⟨h1, h2⟩ := hc j _ (List.getElem?_eq_getElem hl)
  exact ⟨b, off, T[j], e, List.getElem?_eq_getElem hl, h1, h2⟩

/-- The reference's pairs in a row of one's own. -/
def OwnR (w : World) (base : Nat) (v : Value) (T : Tab) : Prop := w.ownsRow base 149 2 v T.length (T.flatMap encR)
theorem OwnR.nil (w : World) (base : Nat) : OwnR w base (.slice none 0 0) [] := World.ownsRow_nil _ _ _ _
theorem flatR_get (T : Tab) (j i : Nat) (hi : i < 2) : (T.flatMap encR)[j * 2 + i]? = (T[j]?).bind fun x => (encR x)[i]? := by
  have h := flatten_get (sz := 2) (T.map encR) (fun x hx => by obtain ⟨y, _, rfl⟩ := List.mem_map.1 hx; rfl) j i hi
  rw [List.flatMap_def, h, List.getElem?_map]
  cases T[j]? <;> rfl
theorem OwnR.rdR {w : World} {base : Nat} {v : Value} {T : Tab} (h : OwnR w base v T) (hle : T.length ≤ 1048576) {Z : Nat → Prop} (hZ : ∀ k, base ≤ k → ¬ Z k) : ∃ A c, v = .slice A T.length c ∧ RdR Z w A T.length T ∧ T.length ≤ c ∧ c ≤ 9223372036854775807 := by
  rcases h.2 with ⟨rfl, h0⟩ | ⟨g, cap, cur, rfl, hg0, hg, hnc, hcm, hcs, htake⟩
  · have : T = [] := List.eq_nil_of_length_eq_zero h0
    subst this
    exact ⟨none, 0, rfl, RdR.nil _ _ _, Nat.le_refl _, by omega⟩
  · refine ⟨_, cap, rfl, ⟨rfl, hle, fun _ => ⟨g, 0, rfl, hZ g hg0, (Array.getElem?_eq_some_iff.1 hg).1, fun j p hp => ?_⟩⟩, hnc, hcm⟩
    have hj : j < T.length := (List.getElem?_eq_some_iff.1 hp).1
    have hcell : ∀ (i : Nat) (u : Value), (encR p)[i]? = some u → w.cell? ⟨g, j * 2 + i, none⟩ = some u := fun i u hu => by
      have hi : i < 2 := (List.getElem?_eq_some_iff.1 hu).1
      have h1 := flatR_get T j i hi
      rw [hp] at h1
      simp only [Option.bind_some, hu] at h1
      rw [← htake, List.getElem?_take, if_pos (by omega), Array.getElem?_toList] at h1
      simp only [World.cell?, hg, Option.isSome_none, Bool.false_eq_true, if_false]
      exact h1
    rw [Nat.zero_add]
    exact ⟨hcell 0 _ rfl, hcell 1 _ rfl⟩
/-- What these functions answer: pairs in a row of their own. -/
def RetR (w : World) (T : Tab) (e : Ending) (w' : World) : Prop := ∃ v, e = .returned v ∧ OwnR w' w.heap.size v T ∧ Keeps Non w w'
theorem info_ref : (Try.prog.info? 149).map (fun i => (i.zero, i.size, i.bytes)) = some (some (.agg #[.string ⟨#[]⟩, .string ⟨#[]⟩]), 2, 32) := by kernel_rfl
theorem src_ref (w : World) (k v : Bs) : Src Try.prog 2 101 (.slice (some ⟨w.heap.size, 0, none⟩) 1 1) 1 [sv k, sv v] (w.alloc (.cells #[sv k, sv v] 149)) :=
  Src.ofSlice (P := Try.prog) (w := w.alloc (.cells #[sv k, sv v] 149)) (size := 2) Try.underlying101 ⟨w.heap.size, 0, none⟩ 1 1 [sv k, sv v] rfl (World.news_of_block (heap_new _ _)) (fun u hu => by simp at hu; rcases hu with rfl | rfl <;> rfl)

theorem run_geq {P : Program} (t : TypeId) (a b : Bs) (w : World) : (binOp .geq t (sv a) (sv b)).run P w = .ok (.bool (!Op.bytesLess a b)) w := by
  have : binOp .geq t (sv a) (sv b) = pure (.bool (!Op.bytesLess a b)) := by simp [binOp, Op.stringOp, sv]
  rw [this]; rfl
theorem eq_yes {a b : Bs} (h : a = b) : (a == b) = true := by simp [h]
theorem eq_no {a b : Bs} (h : ¬ a = b) : (a == b) = false := by simp [h]
theorem less_yes {a b : Bs} (h : a < b) : Op.bytesLess a b = true := by rw [Kv.less_eq]; simpa using h
theorem less_no {a b : Bs} (h : ¬ a < b) : Op.bytesLess a b = false := by rw [Kv.less_eq]; simpa using h
theorem drop_at {T : Tab} {j : Nat} {p : Bs × Bs} (h : T[j]? = some p) : T.drop j = p :: T.drop (j + 1) := by
  obtain ⟨hj, e⟩ := List.getElem?_eq_some_iff.1 h
  rw [List.drop_eq_getElem_cons hj, e]
/-- The list so far, and what is still to come. -/
def PutI (k v : Bs) (T : Tab) (j : Nat) (dn : Bool) (O : Tab) : Prop := O ++ Kv.rput k v (T.drop j) dn = Kv.rput k v T false ∧ O.length ≤ 2 * j
theorem PutI.step {k v : Bs} {T : Tab} {j : Nat} {dn : Bool} {O : Tab} {y : Bs × Bs} (h : PutI k v T j dn O) (hy : T[j]? = some y) : PutI k v T (j + 1) (Kv.rdone k y dn) (O ++ Kv.rlay k v y dn) := by
  have h1 := h.1
  rw [drop_at hy] at h1
  refine ⟨by rw [List.append_assoc]; exact h1, ?_⟩
  have : (Kv.rlay k v y dn).length ≤ 2 := by
    unfold Kv.rlay
    split <;> split <;> simp
  rw [List.length_append]
  have := h.2
  omega
theorem flat_snoc (O : Tab) (p : Bs × Bs) : (O ++ [p]).flatMap encR = O.flatMap encR ++ [sv p.1, sv p.2] := by simp [encR]

set_option maxHeartbeats 8000000 in
set_option maxRecDepth 100000 in
theorem rput_any (Z : Nat → Prop) (A : Option Addr) (n c : Nat) (T : Tab) (k v : Bs) (w : World) (hr : RdR Z w A n T) :
    Calls Try.prog 61 #[.slice A n c, sv k, sv v] w (RetR w (Kv.rput k v T false)) := by
  have HN := Lib.hid hr.len
  have hnb := hr.le
  go_enter Try.func61, Try.ntmps61
  go_wp2
  go_loopw [7, 8, 9] (fun s b i wr => ∃ (j : Nat) (dn : Bool) (O : Tab), j ≤ n ∧ i = .int .i64 j ∧ b = .bool dn ∧ OwnR wr w.heap.size s O ∧ PutI k v T j dn O ∧ Below w.heap.size w wr) (fun _ _ i _ => n - (intOf i).toNat)
  case atStart => exact ⟨0, false, [], Nat.zero_le _, rfl, rfl, OwnR.nil _ _, ⟨rfl, Nat.le_refl _⟩, Below.refl _ _⟩
  case round =>
    obtain ⟨j, dn, O, hj, rfl, rfl, hO, hP, hbel⟩ := hrel
    have hOl := hP.2
    by_cases hlt : j < n
    · obtain ⟨b, off, ⟨yk, yv⟩, rfl, hy, q0, q1⟩ := (hr.below hbel).at_ hlt
      simp only [] at q0 q1
      have HP := Lib.hid (hP.step hy)
      have HKp := Lib.hid (show ∀ w1 : World, Below w.heap.size w w1 → w1.cell? ⟨b, off + j * 2, none⟩ = some (sv yk) ∧ w1.cell? ⟨b, off + j * 2 + 1, none⟩ = some (sv yv) from fun w1 hb1 => by
        obtain ⟨b', off', e1, _, _, hc⟩ := (hr.below hb1).cells (by omega)
        cases e1
        exact hc j _ hy)
      clear hP hy
      unfold OwnR at hO
      obtain ⟨A7, q7, rfl⟩ := own_slice hO
      have eg := run_geq (P := Try.prog) 9 yk k
      have hsplit : (dn = true ∧ ¬ yk = k) ∨ (dn = true ∧ yk = k) ∨ (dn = false ∧ yk < k ∧ ¬ yk = k) ∨ (dn = false ∧ ¬ yk < k ∧ yk = k) ∨ (dn = false ∧ ¬ yk < k ∧ ¬ yk = k) := by
        cases dn
        · by_cases h1 : yk < k
          · exact .inr (.inr (.inl ⟨rfl, h1, Kv.lt_ne h1⟩))
          · by_cases h2 : yk = k
            · exact .inr (.inr (.inr (.inl ⟨rfl, h1, h2⟩)))
            · exact .inr (.inr (.inr (.inr ⟨rfl, h1, h2⟩)))
        · by_cases h2 : yk = k
          · exact .inr (.inl ⟨rfl, h2⟩)
          · exact .inl ⟨rfl, h2⟩
      rcases hsplit with ⟨rfl, h2⟩ | ⟨rfl, h2⟩ | ⟨rfl, h1, h2⟩ | ⟨rfl, h1, h2⟩ | ⟨rfl, h1, h2⟩
      · have e2 := eq_no h2
        have HI := Lib.hid (show PutI k v T (j + 1) true (O ++ [(yk, yv)]) from by have := HP.out; unfold Kv.rdone Kv.rlay at this; simpa [h2, Kv.lt_irr] using this)
        clear HP h2
        have kA1 : Keeps Non wr (wr.alloc (.cells #[sv yk, sv yv] 149)) := (Keeps.refl _ _).alloc _
        have oA1 := own_kept hO kA1 (fun _ _ q => q)
        have bA1 : Below w.heap.size w (wr.alloc (.cells #[sv yk, sv yv] 149)) := hbel.alloc hbel.size _
        have zA1 := bA1.size
        have sA1 := src_ref wr yk yv
        clear kA1
        go_wp2_with (at_builtin; refine hold_it ?_)
        refine let_go ?_
        refine wpList_append_src _ rfl _ _ 101 101 rfl w.heap.size 149 (.agg #[.string ⟨#[]⟩, .string ⟨#[]⟩]) 2 32 Try.underlying101 info_ref rfl (by decide) (.slice A7 O.length q7) _ _ rfl oA1 _ _ _ rfl sA1 (by unfold maxLen; omega) (by omega) zA1 ?_
        intro v1 w1 o1 g1 _
        have b1 := own_below oA1 bA1 g1 zA1
        clear oA1 bA1 zA1 sA1 g1
        have HO : Hid (OwnR w1 w.heap.size v1 (O ++ [(yk, yv)])) := by
          show World.ownsRow _ _ _ _ _ _ _
          simpa [encR] using o1
        clear o1
        go_wp2_with fail
        go_roundw
        case rel => exact ⟨j + 1, true, _, by omega, by go_num, rfl, HO.out, HI.out, b1⟩
        case measure => simp [intOf]; omega
      · have e2 := eq_yes h2
        have HI := Lib.hid (show PutI k v T (j + 1) true O from by have := HP.out; unfold Kv.rdone Kv.rlay at this; simpa [h2, Kv.lt_irr] using this)
        clear HP h2
        have HO : Hid (OwnR wr w.heap.size (.slice A7 O.length q7) O) := by
          show World.ownsRow _ _ _ _ _ _ _
          simpa [encR] using hO
        clear hO
        go_wp2_with fail
        go_roundw
        case rel => exact ⟨j + 1, true, _, by omega, by go_num, rfl, HO.out, HI.out, hbel⟩
        case measure => simp [intOf]; omega
      · have e1 := less_yes h1
        have e2 := eq_no h2
        have HI := Lib.hid (show PutI k v T (j + 1) false (O ++ [(yk, yv)]) from by have := HP.out; unfold Kv.rdone Kv.rlay at this; simpa [h1, h2, Kv.lt_irr] using this)
        clear HP h1 h2
        have kA1 : Keeps Non wr (wr.alloc (.cells #[sv yk, sv yv] 149)) := (Keeps.refl _ _).alloc _
        have oA1 := own_kept hO kA1 (fun _ _ q => q)
        have bA1 : Below w.heap.size w (wr.alloc (.cells #[sv yk, sv yv] 149)) := hbel.alloc hbel.size _
        have zA1 := bA1.size
        have sA1 := src_ref wr yk yv
        clear kA1
        go_wp2_with (at_builtin; refine hold_it ?_)
        refine let_go ?_
        refine wpList_append_src _ rfl _ _ 101 101 rfl w.heap.size 149 (.agg #[.string ⟨#[]⟩, .string ⟨#[]⟩]) 2 32 Try.underlying101 info_ref rfl (by decide) (.slice A7 O.length q7) _ _ rfl oA1 _ _ _ rfl sA1 (by unfold maxLen; omega) (by omega) zA1 ?_
        intro v1 w1 o1 g1 _
        have b1 := own_below oA1 bA1 g1 zA1
        clear oA1 bA1 zA1 sA1 g1
        have HO : Hid (OwnR w1 w.heap.size v1 (O ++ [(yk, yv)])) := by
          show World.ownsRow _ _ _ _ _ _ _
          simpa [encR] using o1
        clear o1
        go_wp2_with fail
        go_roundw
        case rel => exact ⟨j + 1, false, _, by omega, by go_num, rfl, HO.out, HI.out, b1⟩
        case measure => simp [intOf]; omega
      · have e1 := less_no h1
        have e2 := eq_yes h2
        have HI := Lib.hid (show PutI k v T (j + 1) true (O ++ [(k, v)]) from by have := HP.out; unfold Kv.rdone Kv.rlay at this; simpa [h1, h2, Kv.lt_irr] using this)
        clear HP h1 h2
        have hkeep : ∀ w1 : World, Below w.heap.size w w1 → w1.cell? ⟨b, off + j * 2, none⟩ = some (sv yk) ∧ w1.cell? ⟨b, off + j * 2 + 1, none⟩ = some (sv yv) := fun w1 hb1 => HKp.out w1 hb1
        have kA1 : Keeps Non wr (wr.alloc (.cells #[sv k, sv v] 149)) := (Keeps.refl _ _).alloc _
        have oA1 := own_kept hO kA1 (fun _ _ q => q)
        have bA1 : Below w.heap.size w (wr.alloc (.cells #[sv k, sv v] 149)) := hbel.alloc hbel.size _
        have zA1 := bA1.size
        have sA1 := src_ref wr k v
        clear kA1
        go_wp2_with (at_builtin; refine hold_it ?_)
        refine let_go ?_
        refine wpList_append_src _ rfl _ _ 101 101 rfl w.heap.size 149 (.agg #[.string ⟨#[]⟩, .string ⟨#[]⟩]) 2 32 Try.underlying101 info_ref rfl (by decide) (.slice A7 O.length q7) _ _ rfl oA1 _ _ _ rfl sA1 (by unfold maxLen; omega) (by omega) zA1 ?_
        intro v1 w1 o1 g1 _
        have b1 := own_below oA1 bA1 g1 zA1
        clear oA1 bA1 zA1 sA1 g1
        obtain ⟨u0, u1⟩ := hkeep w1 b1
        have HO : Hid (OwnR w1 w.heap.size v1 (O ++ [(k, v)])) := by
          show World.ownsRow _ _ _ _ _ _ _
          simpa [encR] using o1
        clear o1
        go_wp2_with fail
        go_roundw
        case rel => exact ⟨j + 1, true, _, by omega, by go_num, rfl, HO.out, HI.out, b1⟩
        case measure => simp [intOf]; omega
      · have e1 := less_no h1
        have e2 := eq_no h2
        have HI := Lib.hid (show PutI k v T (j + 1) true (O ++ [(k, v), (yk, yv)]) from by have := HP.out; unfold Kv.rdone Kv.rlay at this; simpa [h1, h2, Kv.lt_irr] using this)
        clear HP h1 h2
        have hkeep : ∀ w1 : World, Below w.heap.size w w1 → w1.cell? ⟨b, off + j * 2, none⟩ = some (sv yk) ∧ w1.cell? ⟨b, off + j * 2 + 1, none⟩ = some (sv yv) := fun w1 hb1 => HKp.out w1 hb1
        have kA1 : Keeps Non wr (wr.alloc (.cells #[sv k, sv v] 149)) := (Keeps.refl _ _).alloc _
        have oA1 := own_kept hO kA1 (fun _ _ q => q)
        have bA1 : Below w.heap.size w (wr.alloc (.cells #[sv k, sv v] 149)) := hbel.alloc hbel.size _
        have zA1 := bA1.size
        have sA1 := src_ref wr k v
        clear kA1
        go_wp2_with (at_builtin; refine hold_it ?_)
        refine let_go ?_
        refine wpList_append_src _ rfl _ _ 101 101 rfl w.heap.size 149 (.agg #[.string ⟨#[]⟩, .string ⟨#[]⟩]) 2 32 Try.underlying101 info_ref rfl (by decide) (.slice A7 O.length q7) _ _ rfl oA1 _ _ _ rfl sA1 (by unfold maxLen; omega) (by omega) zA1 ?_
        intro v1 w1 o1 g1 _
        have b1 := own_below oA1 bA1 g1 zA1
        clear oA1 bA1 zA1 sA1 g1
        obtain ⟨A8, q8, rfl⟩ := own_slice o1
        obtain ⟨u0, u1⟩ := hkeep w1 b1
        have kA2 : Keeps Non w1 (w1.alloc (.cells #[sv yk, sv yv] 149)) := (Keeps.refl _ _).alloc _
        have oA2 := own_kept o1 kA2 (fun _ _ q => q)
        have bA2 : Below w.heap.size w (w1.alloc (.cells #[sv yk, sv yv] 149)) := b1.alloc b1.size _
        have zA2 := bA2.size
        have sA2 := src_ref w1 yk yv
        clear kA2
        go_wp2_with (at_builtin; refine hold_it ?_)
        refine let_go ?_
        refine wpList_append_src _ rfl _ _ 101 101 rfl w.heap.size 149 (.agg #[.string ⟨#[]⟩, .string ⟨#[]⟩]) 2 32 Try.underlying101 info_ref rfl (by decide) (.slice A8 (O.length + 1) q8) _ _ rfl oA2 _ _ _ rfl sA2 (by unfold maxLen; omega) (by omega) zA2 ?_
        intro v2 w2 o2 g2 _
        have b2 := own_below oA2 bA2 g2 zA2
        clear oA2 bA2 zA2 sA2 g2
        have HO : Hid (OwnR w2 w.heap.size v2 (O ++ [(k, v), (yk, yv)])) := by
          show World.ownsRow _ _ _ _ _ _ _
          simpa [encR] using o2
        clear o2
        go_wp2_with fail
        go_roundw
        case rel => exact ⟨j + 1, true, _, by omega, by go_num, rfl, HO.out, HI.out, b2⟩
        case measure => simp [intOf]; omega
    · obtain rfl : j = n := by omega
      have h1 := hP.1
      rw [List.drop_of_length_le (by rw [HN.out]; exact Nat.le_refl _)] at h1
      unfold OwnR at hO
      cases dn with
      | true =>
        have HO : Hid (OwnR wr w.heap.size u7 (Kv.rput k v T false)) := by show World.ownsRow _ _ _ _ _ _ _; rw [← h1]; simpa [Kv.rput] using hO
        clear hO hP h1
        go_wp2_with fail
        go_ret
        exact ⟨u7, rfl, HO.out, Keeps.of_below hbel⟩
      | false =>
        obtain ⟨A7, q7, rfl⟩ := own_slice hO
        have kA1 : Keeps Non wr (wr.alloc (.cells #[sv k, sv v] 149)) := (Keeps.refl _ _).alloc _
        have oA1 := own_kept hO kA1 (fun _ _ q => q)
        have bA1 : Below w.heap.size w (wr.alloc (.cells #[sv k, sv v] 149)) := hbel.alloc hbel.size _
        have zA1 := bA1.size
        have sA1 := src_ref wr k v
        clear kA1
        go_wp2_with (at_builtin; refine hold_it ?_)
        refine let_go ?_
        refine wpList_append_src _ rfl _ _ 101 101 rfl w.heap.size 149 (.agg #[.string ⟨#[]⟩, .string ⟨#[]⟩]) 2 32 Try.underlying101 info_ref rfl (by decide) (.slice A7 O.length q7) _ _ rfl oA1 _ _ _ rfl sA1 (by unfold maxLen; omega) (by omega) zA1 ?_
        intro v1 w1 o1 g1 _
        have b1 := own_below oA1 bA1 g1 zA1
        clear oA1 bA1 zA1 sA1 g1
        have HO : Hid (OwnR w1 w.heap.size v1 (Kv.rput k v T false)) := by
          show World.ownsRow _ _ _ _ _ _ _
          rw [← h1]
          simpa [encR, Kv.rput] using o1
        clear o1 hO hP h1
        go_wp2_with fail
        go_ret
        exact ⟨v1, rfl, HO.out, Keeps.of_below b1⟩
end Go.Proofs.Ytbmamhcjbhnkiaa
