/- Layer 7: the stretches in which two disks' bytes differ; the walk of Differ. -/
import Derived.Test.YtbmamhcjbhnkiaaKq
import Derived.Handy
import Derived.RegionTactic
namespace Go.Proofs.Ytbmamhcjbhnkiaa
open Go.RowKit

/-- Where the last stretch ends; -1: there is none. -/
def fin (S : List (Nat × Nat)) : Int := S.foldl (fun _ s => (s.1 + s.2 : Nat)) (-1)
theorem fin_nil : fin [] = -1 := rfl
theorem fin_snoc (S : List (Nat × Nat)) (s : Nat × Nat) : fin (S ++ [s]) = (s.1 + s.2 : Nat) := by simp [fin, List.foldl_append]
theorem fin_take {S : List (Nat × Nat)} {j : Nat} {s : Nat × Nat} (h : S[j]? = some s) : fin (S.take (j + 1)) = (s.1 + s.2 : Nat) := by
  have hl := (List.getElem?_eq_some_iff.1 h).1
  rw [List.take_succ_eq_append_getElem hl, fin_snoc, (List.getElem?_eq_some_iff.1 h).2]
theorem fin_ge (S : List (Nat × Nat)) : -1 ≤ fin S := by
  rcases List.eq_nil_or_concat S with rfl | ⟨S0, s, rfl⟩
  · rw [fin_nil]; omega
  · rw [List.concat_eq_append, fin_snoc]; omega

/-- A stretch behind a place: the bytes before it are alike, its own are not. -/
structure Str (D O : List UInt8) (e : Int) (s : Nat × Nat) : Prop where
  gap : e < s.1
  pos : 1 ≤ s.2
  like : ∀ i : Nat, e ≤ i → i < s.1 → D[i]? = O[i]?
  unlike : ∀ i : Nat, s.1 ≤ i → i < s.1 + s.2 → D[i]? ≠ O[i]?
def OKS (D O : List UInt8) (S : List (Nat × Nat)) : Prop := ∀ (j : Nat) (s : Nat × Nat), S[j]? = some s → Str D O (fin (S.take j)) s
theorem OKS.nil (D O : List UInt8) : OKS D O [] := fun j s h => by simp at h
theorem OKS.snoc {D O : List UInt8} {S : List (Nat × Nat)} {s : Nat × Nat} (h : OKS D O S) (hs : Str D O (fin S) s) : OKS D O (S ++ [s]) := by
  intro j t ht
  rcases Nat.lt_trichotomy j S.length with hj | hj | hj
  · rw [List.getElem?_append_left hj] at ht
    rw [List.take_append_of_le_length (by omega)]
    exact h j t ht
  · subst hj
    simp at ht
    subst ht
    simpa using hs
  · rw [List.getElem?_eq_none (by simp; omega)] at ht
    cases ht
theorem OKS.init {D O : List UInt8} {S : List (Nat × Nat)} {s : Nat × Nat} (h : OKS D O (S ++ [s])) : OKS D O S ∧ Str D O (fin S) s := by
  constructor
  · intro j t ht
    have hj := (List.getElem?_eq_some_iff.1 ht).1
    have := h j t (by rw [List.getElem?_append_left hj]; exact ht)
    rwa [List.take_append_of_le_length (by omega)] at this
  · have := h S.length s (by simp)
    simpa using this
theorem OKS.same {D : List UInt8} {S : List (Nat × Nat)} (h : OKS D D S) : S = [] := by
  rcases S with _ | ⟨s, S⟩
  · rfl
  · have := h 0 s rfl
    exact absurd rfl (this.unlike s.1 (Nat.le_refl _) (by have := this.pos; omega))

/-- What is known before byte k. -/
structure Dif (D O : List UInt8) (k : Nat) (S : List (Nat × Nat)) : Prop where
  ok : OKS D O S
  le : fin S ≤ k
  tail : ∀ i : Nat, fin S ≤ i → i < k → D[i]? = O[i]?
theorem Dif.zero (D O : List UInt8) : Dif D O 0 [] := ⟨OKS.nil _ _, by rw [fin_nil]; omega, fun i _ h => by omega⟩
theorem Dif.like {D O : List UInt8} {k : Nat} {S : List (Nat × Nat)} (h : Dif D O k S) (he : D[k]? = O[k]?) : Dif D O (k + 1) S ∧ fin S ≠ (k + 1 : Nat) := by
  have := h.le
  refine ⟨⟨h.ok, by omega, fun i h1 h2 => ?_⟩, by omega⟩
  rcases Nat.lt_or_ge i k with hi | hi
  · exact h.tail i h1 hi
  · have : i = k := by omega
    subst this; exact he
theorem Dif.fresh {D O : List UInt8} {k : Nat} {S : List (Nat × Nat)} (h : Dif D O k S) (he : D[k]? ≠ O[k]?) (ho : fin S ≠ k) : Dif D O (k + 1) (S ++ [(k, 1)]) := by
  have := h.le
  refine ⟨h.ok.snoc ⟨by show fin S < (k : Int); omega, Nat.le_refl _, fun i h1 h2 => h.tail i h1 h2, fun i h1 h2 => ?_⟩, by rw [fin_snoc]; simp, fun i h1 h2 => by rw [fin_snoc] at h1; simp at h1; omega⟩
  have : i = k := by have h1 : k ≤ i := h1; have h2 : i < k + 1 := h2; omega
  subst this; exact he
theorem Dif.grow {D O : List UInt8} {k : Nat} {S : List (Nat × Nat)} {a n : Nat} (h : Dif D O k (S ++ [(a, n)])) (he : D[k]? ≠ O[k]?) (ho : fin (S ++ [(a, n)]) = k) : Dif D O (k + 1) (S ++ [(a, n + 1)]) := by
  obtain ⟨h1, h2⟩ := h.ok.init
  rw [fin_snoc] at ho
  have hk : a + n = k := by have : ((a + n : Nat) : Int) = k := ho; omega
  refine ⟨h1.snoc ⟨h2.gap, by show 1 ≤ n + 1; omega, h2.like, fun i h3 h4 => ?_⟩, by rw [fin_snoc]; simp; omega, fun i h3 h4 => by rw [fin_snoc] at h3; simp at h3; omega⟩
  rcases Nat.lt_or_ge i k with hi | hi
  · exact h2.unlike i h3 (by show i < a + n; omega)
  · have : i = k := by have h4 : i < a + (n + 1) := h4; omega
    subst this; exact he

/-- The stretches' cells. -/
def cellsS (S : List (Nat × Nat)) : List Value := S.flatMap fun s => [.int .i64 (s.1 : Int), .int .i64 (s.2 : Int)]
theorem cellsS_length (S : List (Nat × Nat)) : (cellsS S).length = S.length * 2 := by
  induction S with
  | nil => rfl
  | cons s S ih => simp [cellsS, List.flatMap_cons] at ih ⊢; omega
theorem cellsS_snoc (S : List (Nat × Nat)) (s : Nat × Nat) : cellsS (S ++ [s]) = cellsS S ++ [.int .i64 (s.1 : Int), .int .i64 (s.2 : Int)] := by simp [cellsS, List.flatMap_append]
theorem cellsS_get {S : List (Nat × Nat)} {j : Nat} {s : Nat × Nat} (h : S[j]? = some s) (rest : List Value) : (cellsS S ++ rest)[j * 2]? = some (.int .i64 (s.1 : Int)) ∧ (cellsS S ++ rest)[j * 2 + 1]? = some (.int .i64 (s.2 : Int)) := by
  induction S generalizing j with
  | nil => simp at h
  | cons t S ih =>
    cases j with
    | zero => simp at h; subst h; simp [cellsS, List.flatMap_cons]
    | succ j =>
      have := ih (by simpa using h)
      rw [show cellsS (t :: S) = [.int .i64 (t.1 : Int), .int .i64 (t.2 : Int)] ++ cellsS S by simp [cellsS, List.flatMap_cons]]
      rw [show (j + 1) * 2 = j * 2 + 2 by omega, show j * 2 + 2 + 1 = (j * 2 + 1) + 2 by omega]
      simpa using this

/-- The row of stretches that is owned, whole. -/
theorem own_spans {w : World} {base n : Nat} {e : TypeId} {v : Value} {S : List (Nat × Nat)} (h : w.ownsRow base e 2 v n (cellsS S)) :
    ∃ A c g rest, v = .slice A n c ∧ base ≤ g ∧ n ≤ c ∧ c ≤ 9223372036854775807 ∧ S.length = n ∧
      (0 < n → A = some ⟨g, 0, none⟩ ∧ w.heap[g]? = some (.cells (cellsS S ++ rest).toArray e (0, 0)) ∧ rest.length + n * 2 = c * 2) := by
  have hl : S.length = n := by have := h.1; rw [cellsS_length] at this; omega
  rcases h.2 with ⟨rfl, rfl⟩ | ⟨g, cap, cur, rfl, hb, hg, hnc, hcm, hcs, htake⟩
  · exact ⟨none, 0, base, [], rfl, Nat.le_refl _, Nat.le_refl _, by omega, hl, fun h => by omega⟩
  · refine ⟨_, cap, g, cur.toList.drop (n * 2), rfl, hb, hnc, by unfold maxLen at hcm; exact hcm, hl, fun _ => ⟨rfl, ?_, by simp; omega⟩⟩
    rw [hg]
    congr 2
    apply Array.ext'
    rw [← htake]
    simp
theorem spans_own {w : World} {base n g c : Nat} {e : TypeId} {S : List (Nat × Nat)} {rest : List Value} (hb : base ≤ g) (hn : S.length = n) (hc : n ≤ c) (hcm : c ≤ 9223372036854775807) (hr : rest.length + n * 2 = c * 2)
    (hg : w.heap[g]? = some (.cells (cellsS S ++ rest).toArray e (0, 0))) : w.ownsRow base e 2 (.slice (some ⟨g, 0, none⟩) n c) n (cellsS S) := by
  refine ⟨by rw [cellsS_length, hn], .inr ⟨g, c, _, rfl, hb, hg, hc, by unfold maxLen; exact hcm, by simp [cellsS_length]; omega, ?_⟩⟩
  have : n * 2 = (cellsS S).length := by rw [cellsS_length, hn]
  rw [this]
  simp

theorem own_keep {Z : Nat → Prop} {w w' : World} {base size n : Nat} {e : TypeId} {v : Value} {xs : List Value} (h : w.ownsRow base e size v n xs) (hk : Keeps Z w w') (hz : ∀ g, v.ownBlock = some g → ¬ Z g) : w'.ownsRow base e size v n xs := by
  refine ⟨h.1, ?_⟩
  rcases h.2 with h0 | ⟨g, cap, cur, rfl, hb, hg, hrest⟩
  · exact .inl h0
  · exact .inr ⟨g, cap, cur, rfl, hb, hk.at_ hg (hz g rfl), hrest⟩
theorem cellsS_set (S : List (Nat × Nat)) (a n m : Nat) (rest : List Value) : (cellsS (S ++ [(a, n)]) ++ rest).set (S.length * 2 + 1) (.int .i64 (m : Int)) = cellsS (S ++ [(a, m)]) ++ rest := by
  rw [cellsS_snoc, cellsS_snoc, List.append_assoc, List.append_assoc, List.set_append_right _ _ (by rw [cellsS_length]; omega), cellsS_length]
  congr 1
  rw [show S.length * 2 + 1 - S.length * 2 = 1 by omega]
  rfl

theorem info_span : (Try.prog.info? 72).map (fun i => (i.zero, i.size, i.bytes)) = some (some (.agg #[.int .i64 0, .int .i64 0]), 2, 16) := by kernel_rfl

/-- Differ's answer: the stretches, in memory of its own. -/
def RetSpans (w : World) (D O : List UInt8) (e : Ending) (w' : World) : Prop := ∃ S A n c g rest, e = .returned (.tuple #[.slice A n c, .bool true]) ∧ Dif D O D.length S ∧ S.length = n ∧ n ≤ c ∧ c ≤ 9223372036854775807 ∧ w.heap.size ≤ g ∧
  (0 < n → A = some ⟨g, 0, none⟩ ∧ w'.heap[g]? = some (.cells (cellsS S ++ rest).toArray 72 (0, 0))) ∧ Keeps Non w w'

theorem differ_no (p g q h : Nat) (d o : Dk) (w : World) (hd : DiskAt w p g d) (ho : DiskAt w q h o) (hne : d.data.length ≠ o.data.length) :
    Calls Try.prog 44 #[.pointer (some ⟨p, 0, none⟩), .pointer (some ⟨q, 0, none⟩)] w fun e w' => e = .returned (.tuple #[.slice none 0 0, .bool false]) ∧ Keeps Non w w' := by
  have l1 := hd.wf.le
  have l2 := ho.wf.le
  obtain ⟨cap, rest, hd⟩ := hd
  obtain ⟨cap', rest', ho⟩ := ho
  have c0 := (six hd.st).c0
  have c0' := (six ho.st).c0
  have hne' : ¬ (d.data.length : Int) = (o.data.length : Int) := by omega
  go_enter Try.func44, Try.ntmps44
  go_wp2_with fail
  go_region
  go_wp2
  go_ret2
  exact ⟨rfl, (Keeps.refl _ _).drew⟩

set_option maxRecDepth 100000 in
set_option maxHeartbeats 1600000 in
theorem differ_yes (p g q h : Nat) (d o : Dk) (w : World) (hd : DiskAt w p g d) (ho : DiskAt w q h o) (hne : d.data.length = o.data.length) :
    Calls Try.prog 44 #[.pointer (some ⟨p, 0, none⟩), .pointer (some ⟨q, 0, none⟩)] w (RetSpans w d.data o.data) := by
  have l1 := hd.wf.le
  have l2 := ho.wf.le
  have hd0 := hd
  have ho0 := ho
  obtain ⟨cap, rest, hd⟩ := hd
  obtain ⟨cap', rest', ho⟩ := ho
  have c0 := (six hd.st).c0
  have c0' := (six ho.st).c0
  generalize hD : d.data = D at *
  generalize hO : o.data = O at *
  have hne' : (D.length : Int) = (O.length : Int) := by omega
  have k0 : Keeps Non w w.drew := (Keeps.refl _ _).drew
  go_enter Try.func44, Try.ntmps44
  go_wp2_with fail
  go_region
  go_wp2_with fail
  go_loopw [6, 7, 27] (fun v6 v7 v27 wr => ∃ (k : Nat) (S : List (Nat × Nat)) (ob : Bool), k ≤ D.length ∧ v27 = .int .i64 k ∧ v7 = .bool ob ∧ ob = decide (fin S = k) ∧ Dif D O k S ∧ S.length ≤ k ∧ wr.ownsRow w.heap.size 72 2 v6 S.length (cellsS S) ∧ Keeps Non w wr) (fun _ _ i _ => D.length - (intOf i).toNat)
  case atStart => exact ⟨0, [], false, Nat.zero_le _, rfl, rfl, by rw [fin_nil]; rfl, Dif.zero _ _, Nat.le_refl _, World.ownsRow_nil _ _ _ _, k0⟩
  case round =>
    obtain ⟨k, S, ob, hk, rfl, rfl, hob, hdif, hSk, hown, hkr⟩ := hrel
    by_cases hlt : k < D.length
    · obtain ⟨x, hx⟩ : ∃ y, D[k]? = some y := ⟨_, List.getElem?_eq_getElem (by omega)⟩
      obtain ⟨y, hy⟩ : ∃ y, O[k]? = some y := ⟨_, List.getElem?_eq_getElem (by omega)⟩
      have e1 := hkr.cell (row_cell hd.row (by rw [hD]; exact hx)) id
      have e2 := hkr.cell (row_cell ho.row (by rw [hO]; exact hy)) id
      have e3 := hkr.cell c0' id
      have e4 := hkr.cell c0 id
      obtain ⟨A, c, g1, rest1, rfl, hg1, hnc, hcm, hSl, hrow⟩ := own_spans hown
      by_cases hxy : x = y
      · subst hxy
        obtain ⟨hdif', hne2⟩ := hdif.like (hx.trans hy.symm)
        have HD' := Lib.hid hdif'
        have HN' := Lib.hid hne2
        have HO := Lib.hid hown
        clear hown hrow hdif hdif' hne2 hob hx hy
        cases ob
        all_goals
          go_wp2_with fail
          go_roundw
          case rel => exact ⟨k + 1, S, false, by omega, by go_num, rfl, by have := HN'.out; exact (decide_eq_false this).symm, HD'.out, by omega, HO.out, hkr⟩
          case measure => simp [intOf]; omega
      · have hne1 : D[k]? ≠ O[k]? := by rw [hx, hy]; simpa using hxy
        have hne2 : ¬ (x.toNat : Int) = (y.toNat : Int) := fun h => hxy (UInt8.toNat_inj.1 (by omega))
        by_cases hf : fin S = k
        · have : ob = true := by rw [hob]; simpa using hf
          subst this
          rcases List.eq_nil_or_concat S with rfl | ⟨S0, ⟨a, n⟩, rfl⟩
          · rw [fin_nil] at hf; omega
          · rw [List.concat_eq_append] at *
            have hdif' := hdif.grow hne1 hf
            obtain ⟨rfl, hr, hroom⟩ := hrow (by simp)
            have HD' := Lib.hid hdif'
            clear hdif hdif' hob hne1
            have hc1 : wr.cell? ⟨g1, S0.length * 2 + 1, none⟩ = some (.int .i64 (n : Int)) := by
              simp only [World.cell?, hr, Option.isSome_none, Bool.false_eq_true, if_false, List.getElem?_toArray]
              exact (cellsS_get (S := S0 ++ [(a, n)]) (j := S0.length) (s := (a, n)) (by simp) rest1).2
            have hz1 := free hr (S0.length * 2 + 1)
            have hset : (wr.setCell ⟨g1, S0.length * 2 + 1, none⟩ (.int .i64 ((n : Int) + 1))).heap[g1]? = some (.cells (cellsS (S0 ++ [(a, n + 1)]) ++ rest1).toArray 72 (0, 0)) := by
              rw [setCell_row _ g1 _ _ _ _ hr, ← cellsS_set S0 a n (n + 1)]
              congr 2
              apply Array.ext'
              simp
            have hks : Keeps Non w (wr.setCell ⟨g1, S0.length * 2 + 1, none⟩ (.int .i64 ((n : Int) + 1))) := hkr.setCell (fun hh => by have hh : g1 < w.heap.size := hh; omega) _
            have e2' := hks.cell (row_cell ho.row (by rw [hO]; exact hy)) id
            have e3' := hks.cell c0' id
            have hSl' : (S0 ++ [(a, n)]).length = S0.length + 1 := by simp
            rw [hSl'] at hnc hroom
            have hfn : fin (S0 ++ [(a, n + 1)]) = ((k + 1 : Nat) : Int) := by rw [fin_snoc] at hf ⊢; simp at hf ⊢; omega
            have hn1 : n ≤ 1048576 := by rw [fin_snoc] at hf; simp at hf; omega
            rw [hSl']
            have Hset := Lib.hid hset
            have HR := Lib.hid hroom
            have HFN := Lib.hid hfn
            clear hset hown hr hrow hroom hf hSl hfn hx hy
            have hbt : ((x.toNat : Int) != (y.toNat : Int)) = true := by simpa using hne2
            go_wp2_with fail
            go_roundw
            case rel =>
              refine ⟨k + 1, S0 ++ [(a, n + 1)], true, by omega, by go_num, rfl, (decide_eq_true HFN.out).symm, HD'.out, by simp; omega, ?_, hks⟩
              have := spans_own hg1 (show (S0 ++ [(a, n + 1)]).length = S0.length + 1 by simp) hnc hcm HR.out Hset.out
              simpa using this
            case measure => simp [intOf]; omega
        · have : ob = false := by rw [hob]; simpa using hf
          subst this
          have hdif' := hdif.fresh hne1 hf
          have HD' := Lib.hid hdif'
          clear hrow hdif hdif' hob hne1 hf
          have hown' := own_keep hown ((Keeps.refl Non _).alloc (.cells #[.int .i64 (k : Int), .int .i64 1] 72)) (fun _ _ h => h)
          have hsl : (cellsS S).length = S.length * 2 := cellsS_length S
          have hsz := hkr.size
          have hsrc : Src Try.prog 2 68 (.slice (some ⟨wr.heap.size, 0, none⟩) 1 1) 1 [.int .i64 (k : Int), .int .i64 1] (wr.alloc (.cells #[.int .i64 (k : Int), .int .i64 1] 72)) :=
            Src.ofSlice _ Try.underlying68 _ 1 1 _ rfl (fun j u hu => by
              rw [add_at]
              simp only [World.cell?, heap_new, Option.isSome_none, Bool.false_eq_true, if_false, Nat.zero_add]
              simpa using hu) (fun u hu => by
              rcases List.mem_cons.1 hu with rfl | hu
              · rfl
              · rw [List.mem_singleton] at hu; subst hu; rfl)
          go_wp2_with (at_builtin; refine wpList_append_src _ rfl _ _ 68 68 rfl w.heap.size 72 (.agg #[.int .i64 0, .int .i64 0]) 2 16 Try.underlying68 info_span rfl (by decide) (.slice A S.length c) _ _ rfl hown' _ _ _ rfl hsrc (by unfold maxLen; omega) (by omega) (by simp; omega) ?_; intro v' w4 hown4 hgrow hat; have hk4 : Keeps Non w w4 := (hkr.alloc _).into (Keeps.of_grown hgrow) (fun k h1 h2 => by have := own_ge hown' k h2.symm; show False; omega); have e2' := hk4.cell (row_cell ho.row (by rw [hO]; exact hy)) id; have e3' := hk4.cell c0' id)
          have hown4 : w4.ownsRow w.heap.size 72 2 v' (S.length + 1) (cellsS (S ++ [(k, 1)])) := by rw [cellsS_snoc]; exact hown4
          have hbt : ((x.toNat : Int) != (y.toNat : Int)) = true := by simpa using hne2
          have HO4 := Lib.hid hown4
          clear hown4 hown hown' hsrc hgrow hat hx hy
          go_wp2_with fail
          go_roundw
          case rel => exact ⟨k + 1, S ++ [(k, 1)], true, by omega, by go_num, rfl, by rw [fin_snoc]; simp, HD'.out, by simp; omega, by rw [List.length_append]; exact HO4.out, hk4⟩
          case measure => simp [intOf]; omega
    · obtain rfl : k = D.length := by omega
      obtain ⟨A, c, g1, rest1, rfl, hg1, hnc, hcm, hSl, hrow⟩ := own_spans hown
      have Hd := Lib.hid hdif
      clear hob hown hdif
      go_wp2_with fail
      go_ret2
      exact ⟨S, A, S.length, c, g1, rest1, rfl, Hd.out, rfl, hnc, hcm, hg1, fun h0 => ⟨(hrow h0).1, (hrow h0).2.1⟩, hkr⟩
end Go.Proofs.Ytbmamhcjbhnkiaa
