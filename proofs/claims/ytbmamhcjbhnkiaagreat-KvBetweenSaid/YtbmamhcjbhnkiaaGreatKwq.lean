/- Layer 8, plain: a log's writes on a disk's halves, and what a crash leaves. No Go in it. -/
import Derived.Test.YtbmamhcjbhnkiaaGreatKwp
import Derived.Test.YtbmamhcjbhnkiaaGreatKr
namespace Go.Proofs.YtbmamhcjbhnkiaaGreat
open Go.RowKit (wrap64)

namespace Wal
theorem put_get {D : List UInt8} {p : Nat} {l : List UInt8} (h : p + l.length ≤ D.length) (i : Nat) : (Dk.put D p l)[i]? = if i < p ∨ p + l.length ≤ i then D[i]? else l[i - p]? := by
  unfold Dk.put
  by_cases h1 : i < p
  · rw [if_pos (.inl h1), List.append_assoc, List.getElem?_append_left (by simp; omega), List.getElem?_take, if_pos h1]
  · by_cases h2 : p + l.length ≤ i
    · rw [if_pos (.inr h2), List.getElem?_append_right (by simp; omega), List.getElem?_drop]
      congr 1; simp; omega
    · rw [if_neg (by omega), List.append_assoc, List.getElem?_append_right (by simp; omega), List.getElem?_append_left (by simp; omega)]
      congr 1; simp; omega
theorem slc_get? (H : List UInt8) (p n i : Nat) : (slc H p n)[i]? = if i < n then H[p + i]? else none := by
  simp [slc, List.getElem?_take, List.getElem?_drop]
theorem slc_put_in {D : List UInt8} {p q n : Nat} {l : List UInt8} (h1 : q ≤ p) (h2 : p + l.length ≤ q + n) (h3 : q + n ≤ D.length) : slc (Dk.put D p l) q n = Dk.put (slc D q n) (p - q) l := by
  apply List.ext_getElem?
  intro i
  rw [slc_get?, put_get (by omega), put_get (by rw [slc_length h3]; omega), slc_get?]
  by_cases hi : i < n
  · rw [if_pos hi, if_pos hi]
    by_cases hc : i < p - q ∨ p - q + l.length ≤ i
    · rw [if_pos hc, if_pos (by omega)]
    · rw [if_neg hc, if_neg (by omega)]; congr 1; omega
  · rw [if_neg hi, if_neg hi, if_pos (.inr (by omega))]
theorem slc_put_out {D : List UInt8} {p q n : Nat} {l : List UInt8} (h : p + l.length ≤ q ∨ q + n ≤ p) (h3 : p + l.length ≤ D.length) : slc (Dk.put D p l) q n = slc D q n := by
  apply List.ext_getElem?
  intro i
  rw [slc_get?, slc_get?, put_get h3]
  by_cases hi : i < n
  · rw [if_pos hi, if_pos hi, if_pos (by omega)]
  · rw [if_neg hi, if_neg hi]

/-- A half's size, and its bytes. -/
def hs (d : Dk) : Nat := d.data.length / 2
def half (d : Dk) (h : Nat) : List UInt8 := slc d.data (h * hs d) (hs d)
theorem half_length {d : Dk} {h : Nat} (hh : h ≤ 1) : (half d h).length = hs d := by
  unfold half; rw [slc_length]; unfold hs
  have : h = 0 ∨ h = 1 := by omega
  rcases this with rfl | rfl <;> omega

/-- A write into a half. -/
def wr (d : Dk) (h a : Nat) (b : List UInt8) : Dk × Bool := (d.write ((h * hs d + a : Nat) : Int) b, decide (d.writeErr ((h * hs d + a : Nat) : Int) b = 0))
/-- One step, and the next one if it was done. -/
def andThen (r : Dk × Bool) (f : Dk → Dk × Bool) : Dk × Bool := if r.2 = true then f r.1 else r
theorem andThen_yes {r : Dk × Bool} (h : r.2 = true) (f : Dk → Dk × Bool) : andThen r f = f r.1 := if_pos h
theorem andThen_no {r : Dk × Bool} (h : r.2 = false) (f : Dk → Dk × Bool) : andThen r f = r := if_neg (by simp [h])

/-- A write of bytes into a half, maybe cut. -/
structure Wrote (d d' : Dk) (h a : Nat) (b : List UInt8) (ok : Bool) : Prop where
  wf : d'.WF
  len : d'.data.length = d.data.length
  ex : ∃ k, k ≤ b.length ∧ half d' h = Dk.put (half d h) a (b.take k) ∧ (ok = true → k = b.length)
  other : half d' (1 - h) = half d (1 - h)
  up : d'.down = !ok
  lit : d.lit = false → ok = true ∧ d'.lit = false
theorem Wrote.hs {d d' : Dk} {h a : Nat} {b : List UInt8} {ok : Bool} (w : Wrote d d' h a b ok) : Wal.hs d' = Wal.hs d := by unfold Wal.hs; rw [w.len]

theorem half_put {d : Dk} {h a : Nat} {l : List UInt8} (hh : h ≤ 1) (hb : a + l.length ≤ hs d) {d' : Dk} (hd' : d'.data = Dk.put d.data (h * hs d + a) l) :
    d'.data.length = d.data.length ∧ half d' h = Dk.put (half d h) a l ∧ half d' (1 - h) = half d (1 - h) := by
  have h01 : h = 0 ∨ h = 1 := by omega
  have hz : 2 * hs d ≤ d.data.length := by unfold hs; omega
  have hl : d'.data.length = d.data.length := by
    rw [hd', Dk.put_length]; rcases h01 with rfl | rfl <;> omega
  have hsz : hs d' = hs d := by unfold hs; rw [hl]
  refine ⟨hl, ?_, ?_⟩
  · unfold half
    rw [hsz, hd', slc_put_in (by omega) (by omega) (by rcases h01 with rfl | rfl <;> omega)]
    congr 1; omega
  · unfold half
    rw [hsz, hd', slc_put_out (by rcases h01 with rfl | rfl <;> simp <;> omega) (by rcases h01 with rfl | rfl <;> omega)]

theorem wr_wrote {d : Dk} {h a : Nat} {b : List UInt8} (wf : d.WF) (hd : d.down = false) (hh : h ≤ 1) (hb : a + b.length ≤ hs d) : Wrote d (wr d h a b).1 h a b (wr d h a b).2 := by
  have h01 : h = 0 ∨ h = 1 := by omega
  have hz : 2 * hs d ≤ d.data.length := by unfold hs; omega
  have hx : (0 : Int) ≤ ((h * hs d + a : Nat) : Int) := by omega
  have hn : ((h * hs d + a : Nat) : Int) + b.length ≤ d.data.length := by rcases h01 with rfl | rfl <;> omega
  have hw := (wf.write ((h * hs d + a : Nat) : Int) b).1
  unfold wr
  cases hl : d.lit with
  | false =>
    have e1 := Dk.err_open hd hl hx hn
    have e2 := Dk.write_open hd hl hx hn
    have ⟨p1, p2, p3⟩ := half_put (d := d) (a := a) (d' := d.write ((h * hs d + a : Nat) : Int) b) (l := b) hh hb (by rw [e2]; show Dk.put d.data ((h * hs d + a : Nat) : Int).toNat b = _; rw [Int.toNat_natCast])
    simp only [e1, decide_true]
    exact ⟨hw, p1, ⟨b.length, Nat.le_refl _, by rw [List.take_length]; exact p2, fun _ => rfl⟩, p3, by rw [e2]; exact hd, fun _ => ⟨rfl, by rw [e2]; exact hl⟩⟩
  | true =>
    by_cases hf : 1 ≤ d.fw
    · have e1 := Dk.err_left hd hl hf hx hn
      have e2 := Dk.write_left hd hl hf hx hn
      have ⟨p1, p2, p3⟩ := half_put (d := d) (a := a) (d' := d.write ((h * hs d + a : Nat) : Int) b) (l := b) hh hb (by rw [e2]; show Dk.put d.data ((h * hs d + a : Nat) : Int).toNat b = _; rw [Int.toNat_natCast])
      simp only [e1, decide_true]
      exact ⟨hw, p1, ⟨b.length, Nat.le_refl _, by rw [List.take_length]; exact p2, fun _ => rfl⟩, p3, by rw [e2]; exact hd, fun h => by simp [hl] at h⟩
    · have e1 := Dk.err_burnt hd hl hf hx hn
      have e2 := Dk.write_burnt hd hl hf hx hn
      have ⟨p1, p2, p3⟩ := half_put (d := d) (a := a) (d' := d.write ((h * hs d + a : Nat) : Int) b) (l := b.take d.fb.toNat) hh (by rw [List.length_take]; omega) (by rw [e2]; show Dk.put d.data ((h * hs d + a : Nat) : Int).toNat (b.take d.fb.toNat) = _; rw [Int.toNat_natCast])
      have e3 : decide (d.writeErr ((h * hs d + a : Nat) : Int) b = 0) = false := by rw [e1]; rfl
      rw [e3]
      refine ⟨hw, p1, ⟨min d.fb.toNat b.length, by omega, ?_, fun h => by simp at h⟩, p3, by rw [e2]; rfl, fun h => by simp [hl] at h⟩
      rw [p2]
      congr 1
      apply List.ext_getElem?
      intro i
      simp only [List.getElem?_take]
      by_cases h1 : i < d.fb.toNat
      · by_cases h2 : i < b.length
        · rw [if_pos h1, if_pos (by omega)]
        · rw [if_pos h1, if_neg (by omega)]; exact List.getElem?_eq_none (by omega)
      · rw [if_neg h1, if_neg (by omega)]

theorem put_right (A T : List UInt8) (i : Nat) (l : List UInt8) : Dk.put (A ++ T) (A.length + i) l = A ++ Dk.put T i l := by
  simp only [Dk.put, List.take_length_add_append, List.append_assoc, Nat.add_assoc]
  rw [List.drop_append, List.drop_eq_nil_of_le (by omega)]
  simp
theorem put_left {A : List UInt8} (T : List UInt8) {i : Nat} {l : List UInt8} (h : i + l.length ≤ A.length) : Dk.put (A ++ T) i l = Dk.put A i l ++ T := by
  simp only [Dk.put]
  rw [List.take_append_of_le_length (by omega), List.drop_append_of_le_length (by omega)]
  simp
theorem put_whole {A l : List UInt8} (h : l.length = A.length) : Dk.put A 0 l = l := by simp [Dk.put, h]
theorem put_head {l B : List UInt8} {A : List UInt8} (h : l.length = A.length) : Dk.put (A ++ B) 0 l = l ++ B := by rw [put_left _ (by omega), put_whole h]

theorem zeros_get_ne (m i : Nat) : (zeros m)[i]? ≠ some 1 := by
  by_cases h : i < m
  · simp [zeros, h]
  · rw [List.getElem?_eq_none (by rw [zeros_length]; omega)]; simp
/-- Where no record begins. -/
def StopT (T : List UInt8) : Prop := T.length < 9 ∨ T[8]? ≠ some 1
theorem stopT_zeros (n : Nat) : StopT (zeros n) := .inr (zeros_get_ne n 8)

theorem genOf_pre {P : List UInt8} (X : List UInt8) (h : P.length = 16) : genOf (P ++ X) = genOf P := by
  have e1 : ∀ p n, p + n ≤ 16 → slc (P ++ X) p n = slc P p n := fun p n hp => by
    apply List.ext_getElem?
    intro i
    rw [slc_get?, slc_get?]
    by_cases hi : i < n
    · rw [if_pos hi, if_pos hi, List.getElem?_append_left (by omega)]
    · rw [if_neg hi, if_neg hi]
  unfold genOf
  rw [e1 0 4 (by omega), e1 4 4 (by omega), List.getElem?_append_left (by omega)]
theorem genOf_unmarked {H : List UInt8} (h : H[8]? ≠ some 1) : genOf H = 0 := by unfold genOf; rw [if_pos (.inl h)]

/-- A half that holds records, and what is behind them. -/
structure Half (H : List UInt8) (gen : Nat) (recs : List (List UInt8)) (T : List UInt8) : Prop where
  pos : 1 ≤ gen
  fit : ∀ b ∈ recs, Fit b
  ex : ∃ P, P.length = 16 ∧ genOf P = gen ∧ H = P ++ laid gen 16 recs ++ T
theorem Half.gen {H : List UInt8} {gen : Nat} {recs : List (List UInt8)} {T : List UInt8} (h : Half H gen recs T) : genOf H = gen := by
  obtain ⟨P, h1, h2, h3⟩ := h.ex
  rw [h3, List.append_assoc, genOf_pre _ h1, h2]
theorem Half.length {H : List UInt8} {gen : Nat} {recs : List (List UInt8)} {T : List UInt8} (h : Half H gen recs T) : H.length = 16 + cost recs + T.length := by
  obtain ⟨P, h1, h2, h3⟩ := h.ex
  rw [h3]; simp [laid_length, h1]; omega
theorem Half.scan {H : List UInt8} {gen : Nat} {recs : List (List UInt8)} {T : List UInt8} (h : Half H gen recs T) (hT : StopT T) {f : Nat} (hf : H.length ≤ 16 + f) : Wal.scan H gen f 16 = (recs, 16 + cost recs) := by
  have hl := h.length
  obtain ⟨P, h1, h2, h3⟩ := h.ex
  have hs : Stop H (P.length + cost recs) := by
    rcases hT with hT | hT
    · left; omega
    · right
      rw [h3, List.getElem?_append_right (by simp [laid_length])]
      simpa [laid_length] using hT
  have := scan_laid (gen := gen) recs H P T f h.fit (by rw [h1]; exact h3) hs (by omega)
  rw [h1] at this
  exact this

/-- The record at the end of a half: its write, cut or whole; its mark. -/
theorem Half.part {H : List UInt8} {gen : Nat} {recs : List (List UInt8)} {m : Nat} (h : Half H gen recs (zeros m)) {b : List UInt8} (hm : 9 + b.length ≤ m) (k : Nat) :
    ∃ T, Half (Dk.put H (16 + cost recs) ((recOf gen (16 + cost recs) b 0).take k)) gen recs T ∧ StopT T := by
  obtain ⟨P, h1, h2, h3⟩ := h.ex
  have hA : (P ++ laid gen 16 recs).length = 16 + cost recs := by simp [laid_length, h1]
  have hk : (recOf gen (16 + cost recs) b 0).length = 9 + b.length := recOf_length _ _ _ _
  refine ⟨Dk.put (zeros m) 0 ((recOf gen (16 + cost recs) b 0).take k), ⟨h.pos, h.fit, P, h1, h2, ?_⟩, ?_⟩
  · have := put_right (P ++ laid gen 16 recs) (zeros m) 0 ((recOf gen (16 + cost recs) b 0).take k)
    rw [hA, Nat.add_zero] at this
    rw [h3, this]
  · right
    rw [put_get (by rw [List.length_take, zeros_length]; omega)]
    split
    · exact zeros_get_ne m 8
    · rename_i hc
      rw [List.length_take] at hc
      rw [List.getElem?_take, if_pos (by omega)]
      have : (recOf gen (16 + cost recs) b 0)[8]? = some 0 := by
        rw [recOf, List.append_assoc, List.getElem?_append_right (by simp [Crc.four_length])]
        simp [Crc.four_length]
      simp [this]
theorem Half.put0 {H : List UInt8} {gen : Nat} {recs : List (List UInt8)} {m : Nat} (h : Half H gen recs (zeros m)) {b : List UInt8} (hm : 9 + b.length ≤ m) :
    Half (Dk.put H (16 + cost recs) (recOf gen (16 + cost recs) b 0)) gen recs (recOf gen (16 + cost recs) b 0 ++ zeros (m - (9 + b.length))) := by
  obtain ⟨P, h1, h2, h3⟩ := h.ex
  have hA : (P ++ laid gen 16 recs).length = 16 + cost recs := by simp [laid_length, h1]
  refine ⟨h.pos, h.fit, P, h1, h2, ?_⟩
  have := put_right (P ++ laid gen 16 recs) (zeros m) 0 (recOf gen (16 + cost recs) b 0)
  rw [hA, Nat.add_zero] at this
  rw [h3, this]
  congr 1
  simp [Dk.put, recOf_length, zeros]
theorem Half.marked {H : List UInt8} {gen : Nat} {recs : List (List UInt8)} {b : List UInt8} (hb : Fit b) {Z : List UInt8} (h : Half H gen recs (recOf gen (16 + cost recs) b 0 ++ Z)) :
    Half (Dk.put H (16 + cost recs + 8) [1]) gen (recs ++ [b]) Z := by
  obtain ⟨P, h1, h2, h3⟩ := h.ex
  have hA : (P ++ laid gen 16 recs).length = 16 + cost recs := by simp [laid_length, h1]
  refine ⟨h.pos, fun c hc => ?_, P, h1, h2, ?_⟩
  · rcases List.mem_append.1 hc with hc | hc
    · exact h.fit c hc
    · simp at hc; subst hc; exact hb
  · have e := put_right (P ++ laid gen 16 recs) (recOf gen (16 + cost recs) b 0 ++ Z) 8 [1]
    rw [hA] at e
    rw [h3, e, laid_snoc]
    have : Dk.put (recOf gen (16 + cost recs) b 0 ++ Z) 8 [1] = recOf gen (16 + cost recs) b 1 ++ Z := by
      have e8 := put_right (Crc.four b.length ++ Crc.four (sumOf gen (16 + cost recs) b)) ([0] ++ (b ++ Z)) 0 [1]
      rw [show (Crc.four b.length ++ Crc.four (sumOf gen (16 + cost recs) b)).length + 0 = 8 by simp [Crc.four_length]] at e8
      simp only [recOf, List.append_assoc] at e8 ⊢
      rw [e8]
      simp [Dk.put]
    rw [this]
    simp [List.append_assoc]

/-- Heads without a mark, and with it. -/
def head0 (gen : Nat) : List UInt8 := Crc.four gen ++ Crc.four (Crc.sum (Crc.four gen)) ++ zeros 8
def head1 (gen : Nat) : List UInt8 := Crc.four gen ++ Crc.four (Crc.sum (Crc.four gen)) ++ [1] ++ zeros 7
theorem head0_length (gen : Nat) : (head0 gen).length = 16 := by simp [head0, Crc.four_length, zeros_length]
theorem head1_length (gen : Nat) : (head1 gen).length = 16 := by simp [head1, Crc.four_length, zeros_length]
theorem head0_mark (gen : Nat) : (head0 gen)[8]? = some 0 := by simp [head0, Crc.four_length, zeros, Crc.four]
theorem head1_gen {gen : Nat} (h : gen ≤ 2147483647) : genOf (head1 gen) = gen := by
  have e0 : slc (head1 gen) 0 4 = Crc.four gen := slc_at' (a := []) (b := Crc.four gen) (c := Crc.four (Crc.sum (Crc.four gen)) ++ [1] ++ zeros 7) (by simp [head1, List.append_assoc]) rfl rfl
  have e1 : slc (head1 gen) 4 4 = Crc.four (Crc.sum (Crc.four gen)) := slc_at' (a := Crc.four gen) (b := Crc.four (Crc.sum (Crc.four gen))) (c := [1] ++ zeros 7) (by simp [head1, List.append_assoc]) rfl rfl
  have e2 : (head1 gen)[8]? = some 1 := by simp [head1, Crc.four]
  unfold genOf
  rw [e0, e1, Crc.get_four (Crc.sum_lt _), Crc.get_four (by omega), if_neg]
  rintro (h1 | h1 | h1)
  · exact h1 e2
  · exact h1 rfl
  · omega
theorem head_put (gen : Nat) : Dk.put (head0 gen) 8 [1] = head1 gen := by
  have e8 := put_right (Crc.four gen ++ Crc.four (Crc.sum (Crc.four gen))) (zeros 8) 0 [1]
  rw [show (Crc.four gen ++ Crc.four (Crc.sum (Crc.four gen))).length + 0 = 8 by simp [Crc.four_length]] at e8
  rw [head0, e8, head1]
  simp [Dk.put, zeros, List.append_assoc]

/-- The disk holds these records, with this generation, in this half. -/
structure Has (d : Dk) (gen : Nat) (recs : List (List UInt8)) (h : Nat) : Prop where
  wf : d.WF
  big : 512 ≤ hs d
  h1 : h ≤ 1
  ex : ∃ T, Half (half d h) gen recs T ∧ StopT T
  other : genOf (half d (1 - h)) < gen
theorem Has.gen_le {d : Dk} {gen : Nat} {recs : List (List UInt8)} {h : Nat} (H : Has d gen recs h) : 1 ≤ gen ∧ gen ≤ 2147483647 := by
  obtain ⟨T, hT, _⟩ := H.ex
  exact ⟨hT.pos, by rw [← hT.gen]; exact genOf_le _⟩

structure Lg where
  half : Nat
  gen : Nat
  fin : Nat
  recs : List (List UInt8)
  dead : Bool

/-- A log that was opened, on its disk that is up. -/
structure Live (d : Dk) (L : Lg) : Prop where
  wf : d.WF
  big : 512 ≤ hs d
  up : d.down = false
  alive : L.dead = false
  h1 : L.half ≤ 1
  fin : L.fin = 16 + cost L.recs
  le : L.fin ≤ hs d
  ex : Half (half d L.half) L.gen L.recs (zeros (hs d - L.fin))
  other : genOf (half d (1 - L.half)) < L.gen
theorem Live.has {d : Dk} {L : Lg} (h : Live d L) : Has d L.gen L.recs L.half := ⟨h.wf, h.big, h.h1, ⟨_, h.ex, stopT_zeros _⟩, h.other⟩
theorem hs_le {d : Dk} (wf : d.WF) : hs d ≤ 524288 := by have := wf.le; unfold hs; omega

/-- Append's writes. -/
def app (d : Dk) (L : Lg) (b : List UInt8) : Dk × Bool := andThen (wr d L.half L.fin (recOf L.gen L.fin b 0)) fun d => wr d L.half (L.fin + 8) [1]
def Lg.added (L : Lg) (b : List UInt8) : Lg := { L with recs := L.recs ++ [b], fin := L.fin + (9 + b.length) }
theorem app_live {d : Dk} {L : Lg} (h : Live d L) {b : List UInt8} (hb : Fit b) (hroom : L.fin + (9 + b.length) ≤ hs d) :
    ((app d L b).2 = true → Live (app d L b).1 (L.added b)) ∧
    ((app d L b).2 = false → (app d L b).1.down = true ∧ (Has (app d L b).1 L.gen L.recs L.half ∨ Has (app d L b).1 L.gen (L.recs ++ [b]) L.half)) ∧
    (d.lit = false → (app d L b).2 = true ∧ (app d L b).1.lit = false) ∧ (app d L b).1.WF ∧ (app d L b).1.data.length = d.data.length := by
  have hr0 := recOf_length L.gen L.fin b 0
  have w1 := wr_wrote (b := recOf L.gen L.fin b 0) (a := L.fin) h.wf h.up h.h1 (by omega)
  unfold app
  obtain ⟨k, hk, hp, hkok⟩ := w1.ex
  cases hok : (wr d L.half L.fin (recOf L.gen L.fin b 0)).2 with
  | false =>
    rw [andThen_no hok, hok]
    refine ⟨(fun h => by simp at h), fun _ => ⟨by rw [w1.up, hok]; rfl, .inl ⟨w1.wf, by rw [w1.hs]; exact h.big, h.h1, ?_, by rw [w1.other]; exact h.other⟩⟩, fun hl => ?_, w1.wf, w1.len⟩
    · rw [hp]
      have := h.ex.part (b := b) (by omega) k
      rw [← h.fin] at this
      exact this
    · have := (w1.lit hl).1
      rw [hok] at this; cases this
  | true =>
    rw [andThen_yes hok]
    have hk' := hkok hok
    subst hk'
    rw [List.take_length] at hp
    obtain ⟨d1, hd1⟩ : ∃ d1, d1 = (wr d L.half L.fin (recOf L.gen L.fin b 0)).1 := ⟨_, rfl⟩
    rw [← hd1] at hp w1 ⊢
    rw [hok] at w1
    have hup1 : d1.down = false := by rw [w1.up]; rfl
    have e0 := h.ex.put0 (b := b) (by omega)
    rw [← h.fin, ← hp] at e0
    have w2 := wr_wrote (b := [1]) (a := L.fin + 8) w1.wf hup1 h.h1 (by rw [w1.hs]; simp; omega)
    have hfin : L.fin = 16 + cost L.recs := h.fin
    have e0' := e0
    rw [hfin] at e0'
    have e1 := Half.marked hb e0'
    rw [← hfin] at e1
    obtain ⟨k, hk, hp2, hkok2⟩ := w2.ex
    have hz : hs (wr d1 L.half (L.fin + 8) [1]).1 = hs d := by rw [w2.hs, w1.hs]
    have hoth : genOf (half (wr d1 L.half (L.fin + 8) [1]).1 (1 - L.half)) < L.gen := by rw [w2.other, w1.other]; exact h.other
    have hsub : hs d - L.fin - (9 + b.length) = hs d - (L.fin + (9 + b.length)) := by omega
    rw [hsub] at e0 e1
    refine ⟨fun hok2 => ?_, fun hno => ⟨by rw [w2.up, hno]; rfl, ?_⟩, fun hl => w2.lit (w1.lit hl).2, w2.wf, by rw [w2.len, w1.len]⟩
    · have := hkok2 hok2
      subst this
      rw [List.take_length] at hp2
      refine ⟨w2.wf, by rw [hz]; exact h.big, by rw [w2.up, hok2]; rfl, h.alive, h.h1, by show L.fin + (9 + b.length) = 16 + cost (L.recs ++ [b]); rw [cost_snoc, h.fin]; omega, by rw [hz]; exact hroom, ?_, hoth⟩
      show Half (half (wr d1 L.half (L.fin + 8) [1]).1 L.half) L.gen (L.recs ++ [b]) (zeros (hs (wr d1 L.half (L.fin + 8) [1]).1 - (L.fin + (9 + b.length))))
      rw [hp2, hz]; exact e1
    · have hk01 : k = 0 ∨ k = 1 := by simp at hk; omega
      rcases hk01 with rfl | rfl
      · left
        refine ⟨w2.wf, by rw [hz]; exact h.big, h.h1, ⟨recOf L.gen L.fin b 0 ++ zeros (hs d - (L.fin + (9 + b.length))), ?_, ?_⟩, hoth⟩
        · rw [hp2]; simpa [Dk.put] using e0
        · right
          rw [List.getElem?_append_left (by omega)]
          rw [recOf, List.append_assoc, List.getElem?_append_right (by simp [Crc.four_length])]
          simp [Crc.four_length]
      · right
        exact ⟨w2.wf, by rw [hz]; exact h.big, h.h1, ⟨_, by rw [hp2]; exact e1, stopT_zeros _⟩, hoth⟩

/-- Noughts from a place of a half on, if anything else stands there. -/
def clr (d : Dk) (h a : Nat) : Dk × Bool := if slc (half d h) a (hs d - a) = zeros (hs d - a) then (d, true) else wr d h a (zeros (hs d - a))
theorem put_tail {A T : List UInt8} {n : Nat} (hT : T.length = n) : Dk.put (A ++ T) A.length (zeros n) = A ++ zeros n := by
  have := put_right A T 0 (zeros n)
  rw [Nat.add_zero] at this
  rw [this, put_whole (by rw [zeros_length, hT])]
theorem slc_tail {A T : List UInt8} {n : Nat} (hT : T.length = n) : slc (A ++ T) A.length n = T := slc_at' (a := A) (b := T) (c := []) (by simp) rfl hT.symm

/-- Clearing: a prefix stays; what is behind it is noughts, or it was cut. -/
theorem clr_wrote {d : Dk} {h : Nat} {A T : List UInt8} (wf : d.WF) (hd : d.down = false) (hh : h ≤ 1) (hH : half d h = A ++ T) :
    (clr d h A.length).1.WF ∧ (clr d h A.length).1.data.length = d.data.length ∧ (clr d h A.length).1.down = !(clr d h A.length).2 ∧ half (clr d h A.length).1 (1 - h) = half d (1 - h) ∧
    (d.lit = false → (clr d h A.length).2 = true ∧ (clr d h A.length).1.lit = false) ∧
    (∃ k, k ≤ T.length ∧ half (clr d h A.length).1 h = A ++ Dk.put T 0 (zeros k)) ∧ ((clr d h A.length).2 = true → half (clr d h A.length).1 h = A ++ zeros T.length) := by
  have hl : hs d = A.length + T.length := by rw [← half_length hh, hH, List.length_append]
  have hn : hs d - A.length = T.length := by omega
  unfold clr
  rw [hn, hH, slc_tail rfl]
  split
  · rename_i hz
    exact ⟨wf, rfl, by simp [hd], rfl, fun h => ⟨rfl, h⟩, ⟨0, Nat.zero_le _, by simp [hH, Dk.put, zeros]⟩, fun _ => by rw [← hz]; exact hH⟩
  · have w1 := wr_wrote (b := zeros T.length) (a := A.length) wf hd hh (by rw [zeros_length]; omega)
    obtain ⟨k, hk, hp, hkok⟩ := w1.ex
    rw [zeros_length] at hk hkok
    have ht : (zeros T.length).take k = zeros k := by simp [zeros]; omega
    rw [ht, hH] at hp
    have hpr := put_right A T 0 (zeros k)
    rw [Nat.add_zero] at hpr
    rw [hpr] at hp
    refine ⟨w1.wf, w1.len, w1.up, w1.other, w1.lit, ⟨k, hk, hp⟩, fun hok => ?_⟩
    have := hkok hok
    subst this
    rw [hp, put_whole (by rw [zeros_length])]

/-- A head, and its mark. -/
def crown (d : Dk) (h gen : Nat) : Dk × Bool := andThen (wr d h 0 (head0 gen)) fun d => wr d h 8 [1]
theorem crown_wrote {d : Dk} {h gen : Nat} {A X : List UInt8} (wf : d.WF) (big : 512 ≤ hs d) (hd : d.down = false) (hh : h ≤ 1) (hH : half d h = A ++ X) (hA : A.length = 16) (hm : A[8]? ≠ some 1) :
    (crown d h gen).1.WF ∧ (crown d h gen).1.data.length = d.data.length ∧ (crown d h gen).1.down = !(crown d h gen).2 ∧ half (crown d h gen).1 (1 - h) = half d (1 - h) ∧
    (d.lit = false → (crown d h gen).2 = true ∧ (crown d h gen).1.lit = false) ∧
    ((half (crown d h gen).1 h)[8]? ≠ some 1 ∨ half (crown d h gen).1 h = head1 gen ++ X) ∧ ((crown d h gen).2 = true → half (crown d h gen).1 h = head1 gen ++ X) := by
  have h0 := head0_length gen
  have w1 := wr_wrote (b := head0 gen) (a := 0) wf hd hh (by omega)
  obtain ⟨k, hk, hp, hkok⟩ := w1.ex
  unfold crown
  cases hok : (wr d h 0 (head0 gen)).2 with
  | false =>
    rw [andThen_no hok, hok]
    refine ⟨w1.wf, w1.len, by rw [w1.up, hok], w1.other, fun hl => ?_, .inl ?_, fun h => by simp at h⟩
    · have := (w1.lit hl).1
      rw [hok] at this; cases this
    · rw [hp, hH, put_get (by rw [List.length_take, List.length_append]; omega)]
      split
      · rw [List.getElem?_append_left (by omega)]; exact hm
      · rename_i hc
        rw [List.length_take] at hc
        rw [List.getElem?_take, if_pos (by omega), Nat.sub_zero, head0_mark]
        simp
  | true =>
    rw [andThen_yes hok]
    have hk' := hkok hok
    subst hk'
    rw [List.take_length, hH, put_head (by omega)] at hp
    obtain ⟨d1, hd1⟩ : ∃ d1, d1 = (wr d h 0 (head0 gen)).1 := ⟨_, rfl⟩
    rw [← hd1] at hp w1 ⊢
    rw [hok] at w1
    have w2 := wr_wrote (b := [1]) (a := 8) w1.wf (by rw [w1.up]; rfl) hh (by rw [w1.hs]; simp; omega)
    obtain ⟨k, hk, hp2, hkok2⟩ := w2.ex
    rw [hp] at hp2
    have e1 : Dk.put (head0 gen ++ X) 8 [1] = head1 gen ++ X := by rw [put_left _ (by rw [h0]; simp), head_put]
    refine ⟨w2.wf, by rw [w2.len, w1.len], w2.up, by rw [w2.other, w1.other], fun hl => w2.lit (w1.lit hl).2, ?_, fun hok2 => ?_⟩
    · have hk01 : k = 0 ∨ k = 1 := by simp at hk; omega
      rcases hk01 with rfl | rfl
      · left
        rw [hp2]
        rw [show Dk.put (head0 gen ++ X) 8 (([1] : List UInt8).take 0) = head0 gen ++ X by simp [Dk.put], List.getElem?_append_left (by omega), head0_mark]; simp
      · right; rw [hp2]; exact e1
    · have := hkok2 hok2
      subst this
      rw [hp2]; exact e1
end Wal
end Go.Proofs.YtbmamhcjbhnkiaaGreat
