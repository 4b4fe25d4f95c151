/- Orders, plain: a region that draws its order, by ONE proof for each operation, whatever the order. No program in it. -/
import Derived.Test.YtbmamhcjbhnkiaaKw
import Derived.Orders
namespace Go.Proofs.Ytbmamhcjbhnkiaa
open Go.RowKit

section
variable {P : Program} {ops : Array Oper} {Q : Exit → Act → World → Prop} {md : Region.Mode}

theorem mem_ready {listed : Array Bool} {i : Nat} (h : i ∈ Region.ready md ops listed) : ∃ o, ops[i]? = some o ∧ listed.getD i true = false ∧ ∀ e ∈ o.after, Region.binds md e = true → listed.getD e.on false = true := by
  unfold Region.ready at h
  obtain ⟨h1, h2⟩ := List.mem_filter.1 h
  have hlt := List.mem_range.1 h1
  rw [Array.getElem?_eq_getElem hlt] at h2
  simp only [Option.map_some, Option.getD_some, Bool.and_eq_true, Bool.not_eq_true'] at h2
  refine ⟨ops[i], Array.getElem?_eq_getElem hlt, h2.1, fun e he hb => ?_⟩
  have := Array.all_eq_true'.1 h2.2 e he
  simpa [hb] using this

theorem ready_mem {listed : Array Bool} {i : Nat} {o : Oper} (ho : ops[i]? = some o) (hl : listed.getD i true = false) (ha : ∀ e ∈ o.after, Region.binds md e = true → listed.getD e.on false = true) : i ∈ Region.ready md ops listed := by
  unfold Region.ready
  refine List.mem_filter.2 ⟨List.mem_range.2 (Array.getElem?_eq_some_iff.1 ho).1, ?_⟩
  simp only [ho, Option.map_some, Option.getD_some, hl, Bool.not_false, Bool.true_and]
  refine Array.all_eq_true'.2 fun e he => ?_
  cases hb : Region.binds md e with
  | false => rfl
  | true => simpa using ha e he hb

theorem wpAny_inv {I : Array Bool → Act → World → Prop}
    (step : ∀ listed a w, I listed a w → ∀ i ∈ Region.ready md ops listed, wpOp P ops Q i (I (listed.setIfInBounds i true)) a w)
    (fin : ∀ listed a w, I listed a w → Region.ready md ops listed = [] → Q .normal a w) :
    ∀ (fuel : Nat) (listed : Array Bool) (a : Act) (w : World), I listed a w → listed.size = ops.size → listed.toList.countP (! ·) ≤ fuel → wpAny P md ops Q fuel listed a w := by
  intro fuel
  induction fuel with
  | zero =>
    intro listed a w hI hs hc
    have h0 : Region.ready md ops listed = [] := by
      apply List.eq_nil_iff_forall_not_mem.2
      intro i hi
      obtain ⟨o, ho, hl, _⟩ := mem_ready hi
      have hlt : i < listed.size := by rw [hs]; exact (Array.getElem?_eq_some_iff.1 ho).1
      have h1 := List.countP_eq_zero.1 (Nat.le_zero.1 hc) listed[i] (by simp)
      simp [Array.getD, hlt] at hl
      simp [hl] at h1
    exact ⟨h0, fin _ _ _ hI h0⟩
  | succ fuel ih =>
    intro listed a w hI hs hc
    refine ⟨fun h0 => fin _ _ _ hI h0, fun i hi => wpOp_mono (fun a' w' h => ih _ a' w' h (by simpa using hs) ?_) (step _ _ _ hI i hi)⟩
    obtain ⟨o, ho, hl, _⟩ := mem_ready hi
    have hlt : i < listed.size := by rw [hs]; exact (Array.getElem?_eq_some_iff.1 ho).1
    simp [Array.getD, hlt] at hl
    have hpos : 0 < listed.toList.countP (! ·) := List.countP_pos_iff.2 ⟨listed[i], by simp, by simp [hl]⟩
    rw [Array.toList_setIfInBounds, List.countP_set (by simpa using hlt)]
    simp only [Array.getElem_toList, hl, Bool.not_false, Bool.not_true, if_true, Bool.false_eq_true, if_false]
    omega

/-- No operation waits for a later one: so where none may come up, all have. -/
theorem ready_nil {listed : Array Bool} (hac : ∀ i o, ops[i]? = some o → ∀ e ∈ o.after, Region.binds md e = true → e.on < i) (h : Region.ready md ops listed = []) : ∀ i, i < ops.size → listed.getD i true = true := by
  intro i
  induction i using Nat.strongRecOn with
  | ind i ih =>
    intro hi
    cases hl : listed.getD i true with
    | true => rfl
    | false =>
      have hm : i ∈ Region.ready md ops listed := ready_mem (Array.getElem?_eq_getElem hi) hl (fun e he hb => by
        have hlt := hac i _ (Array.getElem?_eq_getElem hi) e he hb
        have := ih e.on hlt (by omega)
        by_cases hs : e.on < listed.size
        · simpa [Array.getD, hs] using this
        · exfalso
          have : ¬ i < listed.size := by omega
          simp [Array.getD, this] at hl)
      rw [h] at hm
      cases hm

/-- What is known in the middle of a region: of the operations that have come up their values; nothing else of the frame is turned. -/
structure Mid (dst : Nat → Tmp) (n : Nat) (V : Nat → Value → World → Prop) (S : World → World → Prop) (a0 : Act) (w0 : World) (listed : Array Bool) (a : Act) (w : World) : Prop where
  size : a.tmps.size = a0.tmps.size
  defers : a.defers = a0.defers
  other : ∀ t, (∀ i, i < n → t ≠ dst i) → a.tmps.getD t undef = a0.tmps.getD t undef
  vals : ∀ i, i < n → listed.getD i true = true → V i (a.tmps.getD (dst i) undef) w
  since : S w0 w

theorem getD_set (l : Array Value) (i j : Nat) (v : Value) (h : j < l.size) : (l.setIfInBounds i v).getD j undef = if i = j then v else l.getD j undef := by
  simp only [Array.getD, Array.size_setIfInBounds, h, dif_pos, Array.getInternal_eq_getElem, Array.getElem_setIfInBounds]

theorem wp_region_mid {id : Nat} {a0 : Act} {w0 : World} (hm : P.follows .mixedOrders = true) (dst : Nat → Tmp) (V : Nat → Value → World → Prop) (S : World → World → Prop)
    (hrefl : S w0 w0.drew) (htrans : ∀ a b c, S a b → S b c → S a c) (mono : ∀ i v w w', V i v w → S w w' → V i v w')
    (hdst : ∀ (i : Nat) (o : Oper), ops[i]? = some o → o.dst = some (dst i) ∧ o.guard = none) (inj : ∀ i j, i < ops.size → j < ops.size → dst i = dst j → i = j) (hsz : ∀ i, i < ops.size → dst i < a0.tmps.size)
    (hac : ∀ (i : Nat) (o : Oper), ops[i]? = some o → ∀ e ∈ o.after, Region.binds .any e = true → e.on < i)
    (step : ∀ (i : Nat) (o : Oper), ops[i]? = some o → ∀ (a : Act) (w : World), (∀ t, (∀ i, i < ops.size → t ≠ dst i) → a.tmps.getD t undef = a0.tmps.getD t undef) → (∀ e ∈ o.after, Region.binds .any e = true → V e.on (a.tmps.getD (dst e.on) undef) w) → S w0 w →
      o.wp P a w (fun a' w' => ∃ v, a' = a.put o.dst v ∧ V i v w' ∧ S w w') Q)
    (fin : ∀ (a : Act) (w : World), a.tmps.size = a0.tmps.size → a.defers = a0.defers → (∀ t, (∀ i, i < ops.size → t ≠ dst i) → a.tmps.getD t undef = a0.tmps.getD t undef) → (∀ i, i < ops.size → V i (a.tmps.getD (dst i) undef) w) → S w0 w → Q .normal a w) :
    (Code.region id ops true).wp P Q a0 w0 := by
  refine wp_region_any hm ?_
  refine wpAny_inv (I := fun listed a w => Mid dst ops.size V S a0 w0 listed a w ∧ listed.size = ops.size) ?_ ?_ _ _ _ _ ⟨⟨rfl, rfl, fun _ _ => rfl, fun i hi h => ?_, hrefl⟩, by simp⟩ (by simp) ?_
  · intro listed a w ⟨hM, hls⟩ i hi
    obtain ⟨o, ho, hl, haf⟩ := mem_ready hi
    have hlt := (Array.getElem?_eq_some_iff.1 ho).1
    obtain ⟨hd, hg⟩ := hdst i o ho
    have hw : Region.wanted o (yielded ops a.tmps) = true := by simp [Region.wanted, hg]
    unfold wpOp
    simp only [ho, hw, if_true]
    refine .inl (Oper.wp_mono ?_ (step i o ho a w hM.other (fun e he hb => hM.vals e.on ?_ ?_) hM.since))
    · rintro a' w' ⟨v, rfl, hv, hS⟩
      have hds : dst i < a.tmps.size := by rw [hM.size]; exact hsz i hlt
      refine ⟨⟨?_, ?_, fun t ht => ?_, fun j hj hlj => ?_, htrans _ _ _ hM.since hS⟩, by simpa using hls⟩
      · rw [hd]; simp [Act.put, hM.size]
      · rw [hd]; exact hM.defers
      · rw [hd]
        show (a.tmps.setIfInBounds (dst i) v).getD t undef = _
        rw [← hM.other t ht]
        by_cases hts : t < a.tmps.size
        · rw [getD_set _ _ _ _ hts, if_neg (fun h => ht i hlt h.symm)]
        · simp [Array.getD, hts]
      · rw [hd]
        show V j ((a.tmps.setIfInBounds (dst i) v).getD (dst j) undef) w'
        rw [getD_set _ _ _ _ (by rw [hM.size]; exact hsz j hj)]
        by_cases hij : i = j
        · subst hij; rw [if_pos rfl]; exact hv
        · rw [if_neg (fun h => hij (inj i j hlt hj h))]
          refine mono _ _ _ _ (hM.vals j hj ?_) hS
          have hj' : j < listed.size := by rw [hls]; exact hj
          simp only [Array.getD, Array.size_setIfInBounds, hj', dif_pos, Array.getInternal_eq_getElem, Array.getElem_setIfInBounds, if_neg hij] at hlj ⊢
          exact hlj
    · have := hac i o ho e he hb; omega
    · have h1 := haf e he hb
      have hlt' : e.on < listed.size := by have := hac i o ho e he hb; omega
      simpa [Array.getD, hlt'] using h1
  · intro listed a w ⟨hM, hls⟩ h0
    exact fin a w hM.size hM.defers hM.other (fun i hi => hM.vals i hi (ready_nil hac h0 i hi)) hM.since
  · simp [Array.getD, hi] at h
  · rw [Array.toList_replicate]; exact Nat.le_trans List.countP_le_length (by simp)

/-- The closed conditions, for the kernel. -/
def midOk (ops : Array Oper) (dst : Nat → Tmp) (sz : Nat) : Bool :=
  ((List.range ops.size).all fun i => match ops[i]? with
    | some o => o.dst == some (dst i) && o.guard == none && (o.after.all fun e => !Region.binds .any e || decide (e.on < i)) && decide (dst i < sz)
    | none => true) &&
  ((List.range ops.size).all fun i => (List.range ops.size).all fun j => i == j || dst i != dst j)

theorem wp_region_held_mid {id : Nat} {a0 : Act} {w0 : World} (hm : P.follows .mixedOrders = true) (dst : Nat → Tmp) (sz : Nat) (hs : a0.tmps.size = sz) (hok : midOk ops dst sz = true) (V : Nat → Value → World → Prop)
    (mono : ∀ i v w w', V i v w → Keeps Non w w' → V i v w')
    (step : ∀ (i : Nat) (o : Oper), ops[i]? = some o → ∀ (a : Act) (w : World), (∀ t, (∀ i, i < ops.size → t ≠ dst i) → a.tmps.getD t undef = a0.tmps.getD t undef) → (∀ e ∈ o.after, Region.binds .any e = true → V e.on (a.tmps.getD (dst e.on) undef) w) → Keeps Non w0 w →
      o.wp P a w (fun a' w' => ∃ v, a' = a.put o.dst v ∧ V i v w' ∧ Keeps Non w w') Q)
    (fin : ∀ (a : Act) (w : World), a.tmps.size = a0.tmps.size → a.defers = a0.defers → (∀ t, (∀ i, i < ops.size → t ≠ dst i) → a.tmps.getD t undef = a0.tmps.getD t undef) → (∀ i, i < ops.size → V i (a.tmps.getD (dst i) undef) w) → Keeps Non w0 w → Q .normal a w) :
    (Code.region id ops true).wp P Q a0 w0 := by
  unfold midOk at hok
  simp only [Bool.and_eq_true, List.all_eq_true, List.mem_range] at hok
  obtain ⟨h1, h2⟩ := hok
  have h1' : ∀ (i : Nat) (o : Oper), ops[i]? = some o → (o.dst = some (dst i) ∧ o.guard = none) ∧ (∀ e ∈ o.after, Region.binds .any e = true → e.on < i) ∧ dst i < sz := by
    intro i o ho
    have := h1 i (Array.getElem?_eq_some_iff.1 ho).1
    simp only [ho, Bool.and_eq_true, beq_iff_eq, decide_eq_true_eq] at this
    obtain ⟨⟨⟨q1, q2⟩, q3⟩, q4⟩ := this
    refine ⟨⟨q1, q2⟩, fun e he hb => ?_, q4⟩
    have := Array.all_eq_true'.1 q3 e he
    simpa [hb] using this
  refine wp_region_mid hm dst V (Keeps Non) ((Keeps.refl _ _).drew) (fun _ _ _ h h' => h.trans h') mono (fun i o ho => (h1' i o ho).1) (fun i j hi hj hd => ?_) (fun i hi => by rw [hs]; exact (h1' i _ (Array.getElem?_eq_getElem hi)).2.2) (fun i o ho => (h1' i o ho).2.1) step fin
  have := h2 i hi j hj
  simp only [Bool.or_eq_true, beq_iff_eq, bne_iff_ne] at this
  rcases this with h | h
  · exact h
  · exact absurd hd h
end
end Go.Proofs.Ytbmamhcjbhnkiaa
