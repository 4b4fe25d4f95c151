/- Layer 8, plain: a beginning anew, an opening, and what a disk's bytes are read as. No Go in it. -/
import Derived.Test.YtbmamhcjbhnkiaaGreatKwq
namespace Go.Proofs.YtbmamhcjbhnkiaaGreat

namespace Wal
theorem not_mark0 {x : Option UInt8} (h : x = some 0) : x ≠ some 1 := by rw [h]; simp

/-- A beginning anew: gen is the new one, h the half that is left. -/
def all3 (d : Dk) (o gen : Nat) (recs : List (List UInt8)) : Dk × Bool := if laid gen 16 recs = [] then (d, true) else wr d o 16 (laid gen 16 recs)
def anew1 (d : Dk) (o : Nat) : Dk × Bool := andThen (wr d o 8 [0]) fun d => clr d o 16
def anew2 (d : Dk) (o gen : Nat) (recs : List (List UInt8)) : Dk × Bool := andThen (anew1 d o) fun d => all3 d o gen recs
def anewW (d : Dk) (o gen : Nat) (recs : List (List UInt8)) : Dk × Bool := andThen (anew2 d o gen recs) fun d => crown d o gen

/-- Something was written in one half, maybe cut. -/
structure Mid (d d' : Dk) (o : Nat) (ok : Bool) : Prop where
  wf : d'.WF
  len : d'.data.length = d.data.length
  up : d'.down = !ok
  same : half d' (1 - o) = half d (1 - o)
  lit : d.lit = false → ok = true ∧ d'.lit = false
theorem Mid.hs {d d' : Dk} {o : Nat} {ok : Bool} (m : Mid d d' o ok) : Wal.hs d' = Wal.hs d := by unfold Wal.hs; rw [m.len]
theorem Mid.trans {a b c : Dk} {o : Nat} {ok : Bool} (m : Mid a b o true) (n : Mid b c o ok) : Mid a c o ok :=
  ⟨n.wf, by rw [n.len, m.len], n.up, by rw [n.same, m.same], fun h => n.lit (m.lit h).2⟩
theorem Mid.refl {d : Dk} (wf : d.WF) (hd : d.down = false) (o : Nat) : Mid d d o true := ⟨wf, rfl, by rw [hd]; rfl, rfl, fun h => ⟨rfl, h⟩⟩

theorem anew1_mid {d : Dk} {o : Nat} (wf : d.WF) (big : 512 ≤ hs d) (hd : d.down = false) (ho : o ≤ 1) :
    Mid d (anew1 d o).1 o (anew1 d o).2 ∧ (genOf (half (anew1 d o).1 o) = 0 ∨ genOf (half (anew1 d o).1 o) = genOf (half d o)) ∧
    ((anew1 d o).2 = true → ∃ A, A.length = 16 ∧ A[8]? ≠ some 1 ∧ half (anew1 d o).1 o = A ++ zeros (hs d - 16)) := by
  have hl := half_length (d := d) ho
  have w1 := wr_wrote (b := [0]) (a := 8) wf hd ho (by simp; omega)
  obtain ⟨k, hk, hp, hkok⟩ := w1.ex
  have m1 : Mid d (wr d o 8 [0]).1 o (wr d o 8 [0]).2 := ⟨w1.wf, w1.len, w1.up, w1.other, w1.lit⟩
  have hk01 : k = 0 ∨ k = 1 := by simp at hk; omega
  have hmark : k = 1 → (half (wr d o 8 [0]).1 o)[8]? = some 0 := by
    rintro rfl
    rw [hp, put_get (by simp; omega)]
    simp
  unfold anew1
  cases hok : (wr d o 8 [0]).2 with
  | false =>
    rw [andThen_no hok]
    refine ⟨m1, ?_, fun h => by rw [hok] at h; cases h⟩
    rcases hk01 with rfl | rfl
    · right; rw [hp]; simp [Dk.put]
    · left; exact genOf_unmarked (not_mark0 (hmark rfl))
  | true =>
    rw [andThen_yes hok]
    have h8 := hmark (hkok hok)
    rw [hok] at m1
    obtain ⟨d1, hd1⟩ : ∃ d1, d1 = (wr d o 8 [0]).1 := ⟨_, rfl⟩
    rw [← hd1] at h8 m1 ⊢
    have hl1 := half_length (d := d1) ho
    rw [m1.hs] at hl1
    have hA : ((half d1 o).take 16).length = 16 := by simp; omega
    have hA8 : ((half d1 o).take 16)[8]? ≠ some 1 := by rw [List.getElem?_take, if_pos (by omega), h8]; simp
    have hT : ((half d1 o).drop 16).length = hs d - 16 := by simp; omega
    have c := clr_wrote (A := (half d1 o).take 16) (T := (half d1 o).drop 16) m1.wf (by rw [m1.up]; rfl) ho (by simp)
    rw [hA, hT] at c
    obtain ⟨c1, c2, c3, c4, c5, ⟨k, hk, c6⟩, c7⟩ := c
    refine ⟨m1.trans ⟨c1, c2, c3, c4, c5⟩, .inl (genOf_unmarked ?_), fun h => ⟨_, hA, hA8, c7 h⟩⟩
    rw [c6, List.getElem?_append_left (by omega)]
    exact hA8

theorem anew2_mid {d : Dk} {o gen : Nat} {recs : List (List UInt8)} (wf : d.WF) (big : 512 ≤ hs d) (hd : d.down = false) (ho : o ≤ 1) (hc : 16 + cost recs ≤ hs d) :
    Mid d (anew2 d o gen recs).1 o (anew2 d o gen recs).2 ∧ (genOf (half (anew2 d o gen recs).1 o) = 0 ∨ genOf (half (anew2 d o gen recs).1 o) = genOf (half d o)) ∧
    ((anew2 d o gen recs).2 = true → ∃ A, A.length = 16 ∧ A[8]? ≠ some 1 ∧ half (anew2 d o gen recs).1 o = A ++ (laid gen 16 recs ++ zeros (hs d - (16 + cost recs)))) := by
  obtain ⟨m1, hg1, hA1⟩ := anew1_mid wf big hd ho
  unfold anew2
  cases hok : (anew1 d o).2 with
  | false =>
    rw [andThen_no hok]
    exact ⟨m1, hg1, fun h => by rw [hok] at h; cases h⟩
  | true =>
    rw [andThen_yes hok]
    obtain ⟨A, hA, hA8, hH⟩ := hA1 hok
    rw [hok] at m1
    obtain ⟨d1, hd1⟩ : ∃ d1, d1 = (anew1 d o).1 := ⟨_, rfl⟩
    rw [← hd1] at hH m1 ⊢
    have hll := laid_length gen recs 16
    unfold all3
    split
    · rename_i hnil
      have hc0 : cost recs = 0 := by rw [← hll, hnil]; rfl
      refine ⟨m1, .inl (genOf_unmarked ?_), fun _ => ⟨A, hA, hA8, ?_⟩⟩
      · rw [hH, List.getElem?_append_left (by omega)]; exact hA8
      · rw [hH, hnil, hc0]; rfl
    · have w3 := wr_wrote (b := laid gen 16 recs) (a := 16) m1.wf (by rw [m1.up]; rfl) ho (by rw [m1.hs, hll]; exact hc)
      obtain ⟨k, hk, hp, hkok⟩ := w3.ex
      have m3 : Mid d1 (wr d1 o 16 (laid gen 16 recs)).1 o (wr d1 o 16 (laid gen 16 recs)).2 := ⟨w3.wf, w3.len, w3.up, w3.other, w3.lit⟩
      have hpr := put_right A (zeros (hs d - 16)) 0 ((laid gen 16 recs).take k)
      rw [hA, Nat.add_zero] at hpr
      rw [hH, hpr] at hp
      refine ⟨m1.trans m3, .inl (genOf_unmarked ?_), fun hok3 => ⟨A, hA, hA8, ?_⟩⟩
      · rw [hp, List.getElem?_append_left (by omega)]; exact hA8
      · have := hkok hok3
        subst this
        rw [hp, List.take_length]
        congr 1
        simp only [Dk.put, List.take_zero, List.nil_append, hll, zeros, List.drop_replicate]
        congr 2; omega

theorem anew_live {d : Dk} {L : Lg} (h : Live d L) {recs : List (List UInt8)} (hf : ∀ b ∈ recs, Fit b) (hc : 16 + cost recs ≤ hs d) (hg : L.gen + 1 ≤ 2147483647) :
    ((anewW d (1 - L.half) (L.gen + 1) recs).2 = true → Live (anewW d (1 - L.half) (L.gen + 1) recs).1 ⟨1 - L.half, L.gen + 1, 16 + cost recs, recs, false⟩) ∧
    ((anewW d (1 - L.half) (L.gen + 1) recs).2 = false → (anewW d (1 - L.half) (L.gen + 1) recs).1.down = true ∧
      (Has (anewW d (1 - L.half) (L.gen + 1) recs).1 L.gen L.recs L.half ∨ Has (anewW d (1 - L.half) (L.gen + 1) recs).1 (L.gen + 1) recs (1 - L.half))) ∧
    (d.lit = false → (anewW d (1 - L.half) (L.gen + 1) recs).2 = true ∧ (anewW d (1 - L.half) (L.gen + 1) recs).1.lit = false) ∧
    (anewW d (1 - L.half) (L.gen + 1) recs).1.WF ∧ (anewW d (1 - L.half) (L.gen + 1) recs).1.data.length = d.data.length := by
  have h1 := h.h1
  obtain ⟨o, ho⟩ : ∃ o, o = 1 - L.half := ⟨_, rfl⟩
  have ho1 : o ≤ 1 := by omega
  have hoo : 1 - o = L.half := by omega
  have hoth := h.other
  rw [← ho] at hoth ⊢
  have hgen := h.has.gen_le
  have old : ∀ {d' : Dk} {ok : Bool}, Mid d d' o ok → (genOf (half d' o) = 0 ∨ genOf (half d' o) = genOf (half d o)) → Has d' L.gen L.recs L.half := fun {d'} {ok} m hgo => by
    refine ⟨m.wf, by rw [m.hs]; exact h.big, h1, ⟨_, ?_, stopT_zeros (hs d - L.fin)⟩, ?_⟩
    · have := m.same
      rw [hoo] at this
      rw [this]; exact h.ex
    · rw [← ho]; omega
  have new : ∀ {d' : Dk} {ok : Bool}, Mid d d' o ok → half d' o = head1 (L.gen + 1) ++ (laid (L.gen + 1) 16 recs ++ zeros (hs d - (16 + cost recs))) →
      Half (half d' o) (L.gen + 1) recs (zeros (hs d - (16 + cost recs))) ∧ genOf (half d' (1 - o)) < L.gen + 1 := fun {d'} {ok} m hH => by
    refine ⟨⟨by omega, hf, head1 (L.gen + 1), head1_length _, head1_gen hg, by rw [hH, List.append_assoc]⟩, ?_⟩
    rw [m.same, hoo, h.ex.gen]; omega
  obtain ⟨m2, hg2, hA2⟩ := anew2_mid (gen := L.gen + 1) (recs := recs) h.wf h.big h.up ho1 hc
  unfold anewW
  cases hok : (anew2 d o (L.gen + 1) recs).2 with
  | false =>
    rw [andThen_no hok, hok]
    rw [hok] at m2
    refine ⟨(fun h => by cases h), fun _ => ⟨m2.up, .inl (old m2 hg2)⟩, fun hl => ?_, m2.wf, m2.len⟩
    have := (m2.lit hl).1; cases this
  | true =>
    rw [andThen_yes hok]
    obtain ⟨A, hA, hA8, hH⟩ := hA2 hok
    rw [hok] at m2
    obtain ⟨d2, hd2⟩ : ∃ d2, d2 = (anew2 d o (L.gen + 1) recs).1 := ⟨_, rfl⟩
    rw [← hd2] at hH m2 hg2 ⊢
    obtain ⟨c1, c2, c3, c4, c5, c6, c7⟩ := crown_wrote (gen := L.gen + 1) m2.wf (by rw [m2.hs]; exact h.big) (by rw [m2.up]; rfl) ho1 hH hA hA8
    have m3 := m2.trans (c := (crown d2 o (L.gen + 1)).1) (ok := (crown d2 o (L.gen + 1)).2) ⟨c1, c2, c3, c4, c5⟩
    refine ⟨fun hok3 => ?_, fun hno => ⟨by rw [c3, hno]; rfl, ?_⟩, m3.lit, m3.wf, m3.len⟩
    · obtain ⟨n1, n2⟩ := new m3 (c7 hok3)
      exact ⟨m3.wf, by rw [m3.hs]; exact h.big, by rw [c3, hok3]; rfl, rfl, ho1, rfl, by rw [m3.hs]; exact hc, by rw [m3.hs]; exact n1, n2⟩
    · rcases c6 with c6 | c6
      · left; exact old m3 (.inl (genOf_unmarked c6))
      · right
        obtain ⟨n1, n2⟩ := new m3 c6
        exact ⟨m3.wf, by rw [m3.hs]; exact h.big, ho1, ⟨_, n1, stopT_zeros _⟩, n2⟩

/-- An opening. -/
def pick (d : Dk) : Nat := if genOf (half d 0) < genOf (half d 1) then 1 else 0
def openL (d : Dk) : Lg :=
  if genOf (half d 0) = 0 ∧ genOf (half d 1) = 0 then ⟨0, 1, 16, [], false⟩
  else ⟨pick d, genOf (half d (pick d)), (scan (half d (pick d)) (genOf (half d (pick d))) (hs d) 16).2, (scan (half d (pick d)) (genOf (half d (pick d))) (hs d) 16).1, false⟩
def openW (d : Dk) : Dk × Bool :=
  if genOf (half d 0) = 0 ∧ genOf (half d 1) = 0 then andThen (clr d 0 0) fun d => crown d 0 1
  else clr d (pick d) (scan (half d (pick d)) (genOf (half d (pick d))) (hs d) 16).2

theorem Has.pick {d : Dk} {gen : Nat} {recs : List (List UInt8)} {h : Nat} (H : Has d gen recs h) : ¬ (genOf (half d 0) = 0 ∧ genOf (half d 1) = 0) ∧ Wal.pick d = h ∧ genOf (half d h) = gen := by
  obtain ⟨T, hT, _⟩ := H.ex
  have hg := hT.gen
  have hp := hT.pos
  have ho := H.other
  have h1 := H.h1
  have h01 : h = 0 ∨ h = 1 := by omega
  unfold Wal.pick
  rcases h01 with rfl | rfl
  · simp only [Nat.sub_zero] at ho
    exact ⟨by omega, if_neg (by omega), hg⟩
  · simp only [Nat.sub_self] at ho
    exact ⟨by omega, if_pos (by omega), hg⟩

theorem open_has {d : Dk} {gen : Nat} {recs : List (List UInt8)} {h : Nat} (H : Has d gen recs h) (hd : d.down = false) :
    openL d = ⟨h, gen, 16 + cost recs, recs, false⟩ ∧ Has (openW d).1 gen recs h ∧ ((openW d).2 = true → Live (openW d).1 (openL d)) ∧ (openW d).1.down = !(openW d).2 ∧
    (d.lit = false → (openW d).2 = true ∧ (openW d).1.lit = false) ∧ (openW d).1.data.length = d.data.length := by
  obtain ⟨p1, p2, p3⟩ := H.pick
  obtain ⟨T, hT, hS⟩ := H.ex
  have hlen := half_length (d := d) H.h1
  have hsc := hT.scan hS (f := hs d) (by omega)
  have hL : openL d = ⟨h, gen, 16 + cost recs, recs, false⟩ := by unfold openL; rw [if_neg p1, p2, p3, hsc]
  have hW : openW d = clr d h (16 + cost recs) := by unfold openW; rw [if_neg p1, p2, p3, hsc]
  rw [hL, hW]
  have htl := hT.length
  obtain ⟨P, hP, hPg, hPH⟩ := hT.ex
  have hA : (P ++ laid gen 16 recs).length = 16 + cost recs := by simp [laid_length, hP]
  have c := clr_wrote (A := P ++ laid gen 16 recs) (T := T) H.wf hd H.h1 hPH
  rw [hA] at c
  obtain ⟨c1, c2, c3, c4, c5, ⟨k, hk, c6⟩, c7⟩ := c
  have hz : hs (clr d h (16 + cost recs)).1 = hs d := by unfold hs; rw [c2]
  refine ⟨rfl, ⟨c1, by rw [hz]; exact H.big, H.h1, ⟨Dk.put T 0 (zeros k), ⟨hT.pos, hT.fit, P, hP, hPg, c6⟩, ?_⟩, by rw [c4]; exact H.other⟩, fun hok => ?_, c3, c5, c2⟩
  · rcases hS with hS | hS
    · left; rw [Dk.put_length _ _ _ (by rw [zeros_length]; omega)]; exact hS
    · right
      rw [put_get (by rw [zeros_length]; omega)]
      split
      · exact hS
      · rename_i hc
        exact zeros_get_ne _ _
  · refine ⟨c1, by rw [hz]; exact H.big, by rw [c3, hok]; rfl, rfl, H.h1, rfl, by rw [hz]; show 16 + cost recs ≤ hs d; omega, ⟨hT.pos, hT.fit, P, hP, hPg, ?_⟩, by show genOf (half _ (1 - h)) < gen; rw [c4]; exact H.other⟩
    show half _ h = P ++ laid gen 16 recs ++ zeros (hs (clr d h (16 + cost recs)).1 - (16 + cost recs))
    rw [c7 hok, hz]
    congr 2; omega

theorem slc_zeros {n p m : Nat} (h : p + m ≤ n) : slc (zeros n) p m = zeros m := by simp [slc, zeros]; omega
theorem genOf_zeros (n : Nat) : genOf (zeros n) = 0 := genOf_unmarked (by
  by_cases h : 8 < n
  · simp [zeros, h]
  · rw [List.getElem?_eq_none (by rw [zeros_length]; omega)]; simp)
theorem half_new {n h : Nat} (hh : h ≤ 1) : half (Dk.new n) h = zeros (n / 2) := by
  have h01 : h = 0 ∨ h = 1 := by omega
  have : (Dk.new n).data = zeros n := rfl
  unfold half hs
  rw [this, zeros_length]
  exact slc_zeros (by rcases h01 with rfl | rfl <;> omega)

theorem open_new {n : Nat} (h0 : 1024 ≤ n) (h1 : n ≤ 1048576) :
    openL (Dk.new n) = ⟨0, 1, 16, [], false⟩ ∧ (openW (Dk.new n)).2 = true ∧ Live (openW (Dk.new n)).1 (openL (Dk.new n)) ∧ (openW (Dk.new n)).1.lit = false ∧ (openW (Dk.new n)).1.data.length = n := by
  have hz : hs (Dk.new n) = n / 2 := by unfold hs; rw [new_len]
  have hc : genOf (half (Dk.new n) 0) = 0 ∧ genOf (half (Dk.new n) 1) = 0 := by rw [half_new (by omega), half_new (by omega), genOf_zeros]; exact ⟨rfl, rfl⟩
  have wf : (Dk.new n).WF := Dk.WF.new (by omega) h1
  have hclr : clr (Dk.new n) 0 0 = (Dk.new n, true) := by
    unfold clr
    rw [half_new (by omega), hz, slc_zeros (by omega), if_pos rfl]
  have hL : openL (Dk.new n) = ⟨0, 1, 16, [], false⟩ := by unfold openL; rw [if_pos hc]
  have hW : openW (Dk.new n) = crown (Dk.new n) 0 1 := by unfold openW; rw [if_pos hc, hclr]; exact andThen_yes rfl _
  rw [hL, hW]
  have hH : half (Dk.new n) 0 = zeros 16 ++ zeros (n / 2 - 16) := by rw [half_new (by omega)]; unfold zeros; rw [List.replicate_append_replicate]; congr 1; omega
  obtain ⟨c1, c2, c3, c4, c5, c6, c7⟩ := crown_wrote (gen := 1) wf (by omega) rfl (by omega) hH (zeros_length _) (by simp [zeros])
  obtain ⟨hok, hlit⟩ := c5 rfl
  have hz' : hs (crown (Dk.new n) 0 1).1 = n / 2 := by unfold hs; rw [c2, new_len]
  refine ⟨rfl, hok, ⟨c1, by omega, by rw [c3, hok]; rfl, rfl, by show 0 ≤ 1; omega, rfl, by rw [hz']; show 16 ≤ n / 2; omega, ⟨by show 1 ≤ 1; omega, fun b hb => by simp at hb, head1 1, head1_length _, head1_gen (by omega), ?_⟩, ?_⟩, hlit, by rw [c2, new_len]⟩
  · show half _ 0 = head1 1 ++ [] ++ zeros (hs (crown (Dk.new n) 0 1).1 - 16)
    rw [c7 hok, hz', List.append_nil]
  · show genOf (half _ (1 - 0)) < 1
    rw [c4, half_new (by omega), genOf_zeros]; omega

/-- What a disk's bytes are read as. -/
def refRead (D : List UInt8) : List (List UInt8) × Nat :=
  if genOf (slc D 0 (D.length / 2)) = 0 ∧ genOf (slc D (D.length / 2) (D.length / 2)) = 0 then ([], 0)
  else if genOf (slc D 0 (D.length / 2)) < genOf (slc D (D.length / 2) (D.length / 2)) then
    ((scan (slc D (D.length / 2) (D.length / 2)) (genOf (slc D (D.length / 2) (D.length / 2))) (D.length / 2) 16).1, genOf (slc D (D.length / 2) (D.length / 2)))
  else ((scan (slc D 0 (D.length / 2)) (genOf (slc D 0 (D.length / 2))) (D.length / 2) 16).1, genOf (slc D 0 (D.length / 2)))
theorem refRead_has {d : Dk} {gen : Nat} {recs : List (List UInt8)} {h : Nat} (H : Has d gen recs h) : refRead d.data = (recs, gen) := by
  obtain ⟨p1, p2, p3⟩ := H.pick
  obtain ⟨T, hT, hS⟩ := H.ex
  have hlen := half_length (d := d) H.h1
  have hsc := hT.scan hS (f := hs d) (by omega)
  have e0 : slc d.data 0 (d.data.length / 2) = half d 0 := by unfold half hs; simp
  have e1 : slc d.data (d.data.length / 2) (d.data.length / 2) = half d 1 := by unfold half hs; simp
  have e2 : d.data.length / 2 = hs d := rfl
  unfold refRead
  rw [e0, e1, if_neg p1, e2]
  unfold Wal.pick at p2
  split
  · rename_i hc
    rw [if_pos hc] at p2
    subst p2
    rw [p3, hsc]
  · rename_i hc
    rw [if_neg hc] at p2
    subst p2
    rw [p3, hsc]

theorem scan_le (H : List UInt8) (gen : Nat) : ∀ (f p : Nat), p ≤ H.length → p ≤ (scan H gen f p).2 ∧ (scan H gen f p).2 ≤ H.length
  | 0, p, h => ⟨Nat.le_refl _, h⟩
  | f + 1, p, h => by
    cases hn : next H gen p with
    | none => simp only [scan, hn]; exact ⟨Nat.le_refl _, h⟩
    | some b =>
      have := next_some hn
      have := scan_le H gen f (p + 9 + b.length) (by omega)
      simp only [scan, hn]
      omega
end Wal
end Go.Proofs.YtbmamhcjbhnkiaaGreat
