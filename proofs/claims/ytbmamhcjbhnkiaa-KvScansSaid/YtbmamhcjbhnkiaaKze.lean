/- Layer 9: pairs in rows of one's own; the library's sort of them. -/
import Derived.Test.YtbmamhcjbhnkiaaKzd
import Derived.Test.YtbmamhcjbhnkiaaKzl
namespace Go.Proofs.Ytbmamhcjbhnkiaa
open Go.RowKit Go.Maps Go.Sort
open Kv (Bs Tab)

/-- A pair, and where its value lies. -/
abbrev Pr : Type := (Bs × Bs) × (Option Addr × Nat × Nat)
def encP (x : Pr) : List Value := [sv x.1.1, .slice x.2.1 x.2.2.1 x.2.2.2]
theorem encP_len (x : Pr) : (encP x).length = 2 := rfl
def keys (d : List Pr) : Tab := d.map (·.1)

theorem flat_get (d : List Pr) (j i : Nat) (hi : i < 2) : (d.flatMap encP)[j * 2 + i]? = (d[j]?).bind fun x => (encP x)[i]? := by
  have h := flatten_get (sz := 2) (d.map encP) (fun x hx => by obtain ⟨y, _, rfl⟩ := List.mem_map.1 hx; rfl) j i hi
  rw [List.flatMap_def, h, List.getElem?_map]
  cases d[j]? <;> rfl
theorem flat_len (d : List Pr) : (d.flatMap encP).length = d.length * 2 := by
  induction d with
  | nil => rfl
  | cons x d ih => simp [ih, encP_len]; omega

/-- A block of cells of which none is frozen. -/
def Raw (w : World) (k : Nat) : Prop := ∃ cur e, w.heap[k]? = some (.cells cur e (0, 0))
theorem Raw.keep {S : Nat → Prop} {w w' : World} {k : Nat} (h : Raw w k) (hk : Keeps S w w') (hn : ¬ S k) : Raw w' k := by
  obtain ⟨cur, e, h⟩ := h
  exact ⟨cur, e, hk.at_ h hn⟩
theorem own_raw {w : World} {base n : Nat} {e : TypeId} {v : Value} {l : List UInt8} (h : w.ownsRow base e 1 v n (l.map bv)) (h0 : 0 < n) {A : Option Addr} {m c : Nat} (hv : v = .slice A m c) {a : Addr} (ha : A = some a) : Raw w a.block := by
  obtain ⟨g, cap, rest, e1, _, h1, _⟩ := own_row h h0
  rw [hv] at e1
  injection e1 with e1
  rw [ha] at e1
  injection e1 with e1
  subst e1
  exact ⟨_, _, h1⟩
theorem RetOwn.toR {w w' : World} {l : List UInt8} {e : Ending} (h : RetOwn w l e w') (hle : l.length ≤ 140737488355328) :
    ∃ A n c, e = .returned (.slice A n c) ∧ RdB w' A n l ∧ Keeps Non w w' ∧ (∀ a, A = some a → w.heap.size ≤ a.block) ∧ n ≤ c ∧ c ≤ 9223372036854775807 ∧ (0 < n → ∀ a, A = some a → Raw w' a.block) := by
  obtain ⟨v, rfl, hown, hk⟩ := h
  obtain ⟨A, c, rfl, hrd, hblk, hnc, hcm⟩ := own_rdB hown hle
  exact ⟨A, _, c, rfl, hrd, hk, fun a ha => own_ge hown _ (hblk a ha), hnc, hcm, fun h0 a ha => own_raw hown h0 rfl ha⟩

/-- Pairs in a row of one's own; what their values hold lies in blocks of one's own, too. -/
structure OwnP (w : World) (base : Nat) (v : Value) (d : List Pr) : Prop where
  row : w.ownsRow base 114 2 v d.length (d.flatMap encP)
  el : ∀ x ∈ d, RdB w x.2.1 x.2.2.1 x.1.2 ∧ x.2.2.1 ≤ x.2.2.2 ∧ x.2.2.2 ≤ 9223372036854775807 ∧ (0 < x.2.2.1 → ∀ a, x.2.1 = some a → base ≤ a.block ∧ v.ownBlock ≠ some a.block ∧ Raw w a.block)

section
variable {w : World} {base : Nat} {v : Value} {d : List Pr}
theorem OwnP.nil (w : World) (base : Nat) : OwnP w base (.slice none 0 0) [] := ⟨World.ownsRow_nil _ _ _ _, fun x h => by simp at h⟩
theorem OwnP.keep {Z : Nat → Prop} {w' : World} (h : OwnP w base v d) (hk : Keeps Z w w') (hZ : ∀ k, base ≤ k → ¬ Z k) : OwnP w' base v d :=
  ⟨own_kept h.row hk fun g hg => hZ g (own_ge h.row g hg), fun x hx => by
    obtain ⟨h2, h3, h4, h5⟩ := h.el x hx
    exact ⟨h2.keep hk (fun q a ha => hZ _ (h5 q a ha).1), h3, h4, fun q a ha => ⟨(h5 q a ha).1, (h5 q a ha).2.1, (h5 q a ha).2.2.keep hk (hZ _ (h5 q a ha).1)⟩⟩⟩
theorem OwnP.lower {base' : Nat} (h : OwnP w base v d) (hb : base' ≤ base) : OwnP w base' v d :=
  ⟨own_base h.row hb, fun x hx => by
    obtain ⟨h2, h3, h4, h5⟩ := h.el x hx
    exact ⟨h2, h3, h4, fun q a ha => ⟨Nat.le_trans hb (h5 q a ha).1, (h5 q a ha).2⟩⟩⟩
theorem OwnP.push {w1 : World} {v' : Value} {x : Pr} (h : OwnP w base v d) (hr : RdB w x.2.1 x.2.2.1 x.1.2) (hnc : x.2.2.1 ≤ x.2.2.2) (hcm : x.2.2.2 ≤ 9223372036854775807) (hA : 0 < x.2.2.1 → ∀ a, x.2.1 = some a → base ≤ a.block ∧ v.ownBlock ≠ some a.block ∧ Raw w a.block)
    (hgrow : w.grownBy w1 v.ownBlock) (hloc : v'.ownBlock = v.ownBlock ∨ v'.ownBlock = some w.heap.size) (hown : w1.ownsRow base 114 2 v' (d.length + 1) (d.flatMap encP ++ encP x)) : OwnP w1 base v' (d ++ [x]) := by
  have hk := Keeps.of_grown hgrow
  refine ⟨by simpa using hown, fun y hy => ?_⟩
  have turn : ∀ {A : Option Addr} {n : Nat} {q : Bs}, RdB w A n q → (0 < n → ∀ a, A = some a → base ≤ a.block ∧ v.ownBlock ≠ some a.block ∧ Raw w a.block) → RdB w1 A n q ∧ (0 < n → ∀ a, A = some a → base ≤ a.block ∧ v'.ownBlock ≠ some a.block ∧ Raw w1 a.block) := fun {A n q} hq hb =>
    ⟨hq.keep hk (fun q0 a ha e => (hb q0 a ha).2.1 e.symm), fun q0 a ha => ⟨(hb q0 a ha).1, fun e => by
      rcases hloc with e' | e'
      · exact (hb q0 a ha).2.1 (e' ▸ e)
      · have := hq.old q0 a ha
        rw [e'] at e
        injection e with e
        omega, (hb q0 a ha).2.2.keep hk fun e => (hb q0 a ha).2.1 e.symm⟩⟩
  rcases List.mem_append.1 hy with hy | hy
  · obtain ⟨h2, h3, h4, h5⟩ := h.el y hy
    obtain ⟨t1, t2⟩ := turn h2 h5
    exact ⟨t1, h3, h4, t2⟩
  · simp at hy
    subst hy
    obtain ⟨t1, t2⟩ := turn hr hA
    exact ⟨t1, hnc, hcm, t2⟩
/-- Its shape: none, or a row. -/
theorem OwnP.form (h : OwnP w base v d) : ∃ A c, v = .slice A d.length c ∧ d.length ≤ c ∧ c ≤ 9223372036854775807 ∧
    (0 < d.length → ∃ g cur, A = some ⟨g, 0, none⟩ ∧ v.ownBlock = some g ∧ base ≤ g ∧ w.heap[g]? = some (.cells cur 114 (0, 0)) ∧ cur.size = c * 2 ∧ cur.toList.take (d.length * 2) = d.flatMap encP) := by
  rcases h.row.2 with ⟨rfl, h0⟩ | ⟨g, cap, cur, rfl, hg0, hg, hnc, hcm, hcs, htake⟩
  · have : d = [] := List.eq_nil_of_length_eq_zero h0
    subst this
    exact ⟨none, 0, rfl, Nat.le_refl _, by omega, fun q => by simp at q⟩
  · exact ⟨_, cap, rfl, hnc, hcm, fun _ => ⟨g, cur, rfl, rfl, hg0, hg, hcs, htake⟩⟩
end

theorem row_cellP {w : World} {g : Nat} {cur : Array Value} {e : TypeId} {fr : Nat × Nat} {d : List Pr} (hg : w.heap[g]? = some (.cells cur e fr)) (ht : cur.toList.take (d.length * 2) = d.flatMap encP) {j i : Nat} {x : Pr} {u : Value} (hx : d[j]? = some x) (hu : (encP x)[i]? = some u) : w.cell? ⟨g, j * 2 + i, none⟩ = some u := by
  have hi : i < 2 := (List.getElem?_eq_some_iff.1 hu).1
  have hj : j < d.length := (List.getElem?_eq_some_iff.1 hx).1
  have h1 := flat_get d j i hi
  rw [hx] at h1
  simp only [Option.bind_some, hu] at h1
  rw [← ht, List.getElem?_take, if_pos (by omega), Array.getElem?_toList] at h1
  simp only [World.cell?, hg, Option.isSome_none, Bool.false_eq_true, if_false]
  exact h1

theorem flatK_get (d : List Pr) (t : Nat) (h : t < d.length * 2) : ∃ x u, d[t / 2]? = some x ∧ (encP x)[t % 2]? = some u ∧ (flatK encP 2 d.toArray)[t]! = u := by
  have hj : t / 2 < d.length := by omega
  have h2 : t % 2 < (encP d[t / 2]).length := by rw [encP_len]; omega
  refine ⟨d[t / 2], (encP d[t / 2])[t % 2], List.getElem?_eq_getElem hj, List.getElem?_eq_getElem h2, ?_⟩
  rw [get_flatK _ _ _ _ (by simpa using h), getElem!_pos d.toArray (t / 2) (by simpa using hj)]
  simp only [List.getElem_toArray]
  exact getElem!_pos (encP d[t / 2]) (t % 2) h2
theorem holds_P {w : World} {g : Nat} {cur : Array Value} {e : TypeId} {d : List Pr} (hg : w.heap[g]? = some (.cells cur e (0, 0))) (ht : cur.toList.take (d.length * 2) = d.flatMap encP) : HoldsK encP 2 w g 0 d.toArray := by
  intro j hj
  have hj' : j < d.length * 2 := by simpa using hj
  obtain ⟨x, u, h1, h2, h3⟩ := flatK_get d j hj'
  have := row_cellP hg ht h1 h2
  rw [show j / 2 * 2 + j % 2 = j by omega] at this
  rw [Nat.zero_add, h3]
  exact ⟨this, free hg j⟩
theorem heap_sortedP {w : World} {g n : Nat} {os : Array Obj} {cur : Array Value} {e : TypeId} {fr : Nat × Nat} (d : Array Pr) (hb : w.heap[g]? = some (.cells cur e fr)) :
    (sortWorldK encP 2 w g 0 n d os).heap[g]? = some (.cells (putCells id 0 (flatK encP 2 d) cur) e fr) := by
  have hg : g < w.heap.size := (Array.getElem?_eq_some_iff.1 hb).1
  unfold sortWorldK putRowK
  rw [heap_grow_old _ _ (by simpa using hg)]
  simp [putRow, mapBlock, Sort.ahead, Array.getElem?_modify, hb, onCells]
theorem keeps_sortedP {w : World} {g n : Nat} {os : Array Obj} (d : Array Pr) : Keeps (fun k => k = g) w (sortWorldK encP 2 w g 0 n d os) := by
  refine ⟨rfl, rfl, rfl, by simp [sortWorldK, putRowK], fun k hk hne => ?_⟩
  unfold sortWorldK putRowK
  rw [heap_grow_old _ _ (by simpa using hk)]
  have : g ≠ k := fun e => hne e.symm
  simp [putRow, mapBlock, Sort.ahead, Array.getElem?_modify, this]
theorem take_putP (cur : Array Value) (d : List Pr) (h : d.length * 2 ≤ cur.size) : (putCells id 0 (flatK encP 2 d.toArray) cur).toList.take (d.length * 2) = d.flatMap encP := by
  apply List.ext_getElem?
  intro t
  by_cases ht : t < d.length * 2
  · obtain ⟨x, u, h1, h2, h3⟩ := flatK_get d t ht
    have h4 := flat_get d (t / 2) (t % 2) (by omega)
    rw [show t / 2 * 2 + t % 2 = t by omega, h1] at h4
    simp only [Option.bind_some, h2] at h4
    rw [h4, List.getElem?_take_of_lt ht, Array.getElem?_toList]
    simp [putCells, ht, show t < cur.size by omega]
    rw [← h3]
    exact (getElem!_pos (flatK encP 2 d.toArray) t (by simpa using ht)).symm
  · rw [List.getElem?_take_eq_none (by omega), List.getElem?_eq_none (by rw [flat_len]; omega)]

/-- The comparison of keys. -/
def cfP (x y : Pr) : Int := Lib.compareBytes x.1.1 y.1.1
theorem cmp_lt : ∀ (a b : Bs), decide (Lib.compareBytes a b < 0) = decide (a < b)
  | [], [] => by simp [Lib.compareBytes]
  | [], _ :: _ => by simp [Lib.compareBytes]
  | _ :: _, [] => by simp [Lib.compareBytes]
  | x :: a, y :: b => by
    unfold Lib.compareBytes
    have ih := cmp_lt a b
    by_cases h1 : x < y
    · simp [h1, List.cons_lt_cons_iff]
    · by_cases h2 : y < x
      · have h3 : ¬ x = y := fun e => by subst e; exact h1 h2
        simp [h1, h2, h3, List.cons_lt_cons_iff]
      · have h3 : x = y := by
          rcases UInt8.lt_or_le x y with q | q
          · exact absurd q h1
          · rcases UInt8.lt_or_le y x with r | r
            · exact absurd r h2
            · exact UInt8.le_antisymm r q
        simp only [h1, h2, if_false]
        rw [ih]
        simp [h3, List.cons_lt_cons_iff]
theorem ltP (x y : Pr) : ltOf cfP x y = decide (x.1.1 < y.1.1) := cmp_lt _ _
theorem swoP : SWO (ltOf cfP) where
  irrefl x := by rw [ltP]; simp
  trans x y z h1 h2 := by rw [ltP] at *; simp only [decide_eq_true_eq] at *; exact Kv.lt_tr h1 h2
  ntrans x y z h1 h2 := by
    rw [ltP] at *
    simp only [decide_eq_false_iff_not] at *
    intro h3
    by_cases e : y.1.1 = x.1.1
    · rw [e] at h2; exact h2 h3
    · exact h2 (Kv.lt_tr (Kv.lt_or h1 (fun q => e q.symm)) h3)

set_option maxHeartbeats 1000000 in
theorem closureP (x y : Pr) (W : World) : Calls Try.prog 117 #[.agg (encP x).toArray, .agg (encP y).toArray] W fun e w' => e = .returned (.int .i64 (cfP x y)) ∧ ∃ q os', w' = grow (W.drewN q) os' := by
  have hcon := fun W' => Any.strings_Compare Try.cmpStr ⟨x.1.1.toArray⟩ ⟨y.1.1.toArray⟩ W'
  change ∀ W', Calls Try.prog 118 _ _ _ at hcon
  have e1 : Lib.compareBytes (ByteArray.mk x.1.1.toArray).data.toList (ByteArray.mk y.1.1.toArray).data.toList = cfP x y := rfl
  rw [e1] at hcon
  have HC := Lib.hid hcon
  show Calls Try.prog 117 #[.agg #[sv x.1.1, .slice x.2.1 x.2.2.1 x.2.2.2], .agg #[sv y.1.1, .slice y.2.1 y.2.2.1 y.2.2.2]] W _
  clear e1 hcon
  go_enter Try.func117, Try.ntmps117
  go_wp2_with fail
  refine (HC.out _).mono ?_
  rintro e w' ⟨rfl, rfl⟩
  go_wp2_with fail
  go_ret
  exact ⟨rfl, 0, _, by rw [alloc_eq_grow, alloc_eq_grow, grow_grow]; rfl⟩

theorem sort_any (w : World) (base : Nat) (v : Value) (d : List Pr) (h : OwnP w base v d) (hd : d.length < 4611686018427387904) (hnd : (keys d).Pairwise fun p q => p.1 ≠ q.1) :
    Calls Try.prog 116 #[v, .func (.func 117) #[] #[]] w fun e w' => e = .returned (.tuple #[]) ∧ ∃ d' : List Pr, d'.Perm d ∧ Kv.Rise (keys d') ∧ OwnP w' base v d' ∧ Keeps (fun k => some k = v.ownBlock) w w' := by
  obtain ⟨A, c, rfl, hc1, hc2, hrow⟩ := h.form
  rcases Nat.eq_zero_or_pos d.length with h0 | h0
  · have : d = [] := List.eq_nil_of_length_eq_zero h0
    subst this
    have hcon := AnyF.slices_SortFunc_none (P := Try.prog) (ρ := Try.sortPair_ren) { Try.sortPair with } A c (.func (.func 117) #[] #[]) w
    refine hcon.mono ?_
    rintro e w' ⟨rfl, rfl⟩
    exact ⟨rfl, [], List.Perm.refl _, by simp [keys, Kv.Rise], h, Keeps.refl _ _⟩
  · obtain ⟨g, cur, rfl, -, hg, hb, hs, ht⟩ := hrow h0
    have eg : ∀ args w, (callFunc 117 args).run Try.prog w = .ok (.enter 117 args) w := enters_of Try.func117 (by kernel_rfl) rfl
    have hcon := AnyQ.slices_SortFunc Try.sortPair 2 Try.isAgg114 Try.sizeOf114 encP (fun _ => rfl) (fun x v hv => by simp [encP] at hv; rcases hv with rfl | rfl <;> rfl) cfP swoP 117 #[] g 0 c d.toArray w eg (fun _ _ _ _ x y => closureP x y _) (holds_P hb ht) (Array.getElem?_eq_some_iff.1 hb).1 (by simpa using hd)
    refine hcon.mono ?_
    rintro e w' ⟨rfl, d', n, os, ⟨hsz, _, hperm⟩, hso, rfl⟩
    have hl : d'.size = d.length := by simpa using hsz
    have e1 : d'.extract 0 d.toArray.size = d' := by rw [← hsz]; exact Array.extract_size
    rw [e1, Array.extract_size] at hperm
    simp only [List.toList_toArray] at hperm
    have hk := keeps_sortedP (w := w) (g := g) (n := n) (os := os) d'
    have hel : ∀ x ∈ d'.toList, x ∈ d := fun x hx => hperm.mem_iff.1 hx
    refine ⟨rfl, d'.toList, hperm, ?_, ⟨?_, fun x hx => ?_⟩, hk.mono fun k _ e => by simp [Value.ownBlock, e]⟩
    · have hnd' : (keys d'.toList).Pairwise fun p q => p.1 ≠ q.1 := ((hperm.map (·.1)).pairwise_iff (fun {_ _} q => Ne.symm q)).2 hnd
      unfold Kv.Rise
      rw [List.pairwise_iff_getElem] at hnd' ⊢
      intro i j hi hj hij
      have hne := hnd' i j hi hj hij
      have hi' : i < d'.size := by simpa [keys] using hi
      have hj' : j < d'.size := by simpa [keys] using hj
      have := hso i j (Nat.zero_le _) hij (by simpa [hl] using hj')
      rw [ltP, getElem!_pos d' j hj', getElem!_pos d' i hi'] at this
      simp only [decide_eq_false_iff_not] at this
      simp only [keys, List.getElem_map, Array.getElem_toList] at hne ⊢
      exact Kv.lt_or this (fun q => hne q.symm)
    · have := heap_sortedP (n := n) (os := os) d' hb
      have hlen : d'.toList.length = d.length := by simpa using hl
      refine ⟨by rw [flat_len], .inr ⟨g, c, _, by rw [hlen], hg, this, by rw [hlen]; exact hc1, by unfold maxLen; exact hc2, by simp [putCells, hs], ?_⟩⟩
      exact take_putP cur d'.toList (by rw [hlen]; omega)
    · obtain ⟨h2, h3, h4, h5⟩ := h.el x (hel x hx)
      exact ⟨h2.keep hk (fun q a ha e => (h5 q a ha).2.1 (by simp [Value.ownBlock, e])), h3, h4, fun q a ha => ⟨(h5 q a ha).1, (h5 q a ha).2.1, (h5 q a ha).2.2.keep hk fun e => (h5 q a ha).2.1 (by simp [Value.ownBlock, e])⟩⟩
end Go.Proofs.Ytbmamhcjbhnkiaa
