/- The walk of the law WalOwn. -/
import Derived.Test.YtbmamhcjbhnkiaaKyg
import Derived.Test.YtbmamhcjbhnkiaaKi
namespace Go.Proofs.Ytbmamhcjbhnkiaa
open Go.RowKit

theorem not_u8 (x : UInt8) : ∃ y : UInt8, Value.int .u8 (bits .xor .u8 IntKind.u8.max (x.toNat : Int)) = bv y := by
  refine ⟨UInt8.ofNat (bits .xor .u8 IntKind.u8.max (x.toNat : Int)).toNat, ?_⟩
  have h0 : 0 ≤ bits .xor .u8 IntKind.u8.max (x.toNat : Int) ∧ bits .xor .u8 IntKind.u8.max (x.toNat : Int) < 256 := by
    show 0 ≤ IntKind.u8.wrap _ ∧ IntKind.u8.wrap _ < 256
    generalize (_ : Int) = z
    show 0 ≤ _ ∧ _
    unfold IntKind.wrap
    simp [IntKind.min, IntKind.max, IntKind.bits, IntKind.signed]
    omega
  simp only [bv, UInt8.toNat_ofNat']
  congr 1
  omega

theorem RdLZ.two {Z : Nat → Prop} {w : World} {b : Nat} {e : TypeId} {fr : Nat × Nat} {A0 A1 : Option Addr} {n0 n1 c0 c1 : Nat} {l0 l1 : List UInt8}
    (hb : w.heap[b]? = some (.cells #[.slice A0 n0 c0, .slice A1 n1 c1] e fr)) (hZ : ¬ Z b) (h0 : RdB w A0 n0 l0) (h1 : RdB w A1 n1 l1) (k0 : n0 ≤ c0 ∧ c0 ≤ 9223372036854775807) (k1 : n1 ≤ c1 ∧ c1 ≤ 9223372036854775807)
    (z0 : 0 < n0 → ∀ a, A0 = some a → ¬ Z a.block) (z1 : 0 < n1 → ∀ a, A1 = some a → ¬ Z a.block) : RdLZ Z w (some ⟨b, 0, none⟩) 2 [l0, l1] :=
  ⟨rfl, by decide, fun _ => ⟨b, 0, rfl, hZ, fun j l hl => by
    match j, hl with
    | 0, hl => simp at hl; subst hl; exact ⟨A0, n0, c0, by simp [World.cell?, hb], h0, k0.1, k0.2, z0⟩
    | 1, hl => simp at hl; subst hl; exact ⟨A1, n1, c1, by simp [World.cell?, hb], h1, k1.1, k1.2, z1⟩
    | _ + 2, hl => simp at hl⟩⟩

theorem own_rowV {w : World} {base n : Nat} {e : TypeId} {v : Value} {vs : List Value} (h : w.ownsRow base e 1 v n vs) (h0 : 0 < n) :
    ∃ g cap rest, v = .slice (some ⟨g, 0, none⟩) n cap ∧ base ≤ g ∧ w.heap[g]? = some (.cells (vs ++ rest).toArray e (0, 0)) ∧ n ≤ cap ∧ cap ≤ 9223372036854775807 := by
  rcases h.2 with ⟨_, h1⟩ | ⟨g, cap, cur, rfl, hb, hg, hnc, hcm, hcs, htake⟩
  · omega
  · refine ⟨g, cap, cur.toList.drop n, rfl, hb, ?_, hnc, by unfold maxLen at hcm; exact hcm⟩
    rw [hg]
    congr 2
    apply Array.ext'
    rw [← htake, Nat.mul_one]
    simp
theorem row_at {w : World} {g : Nat} {vs rest : List Value} {e : TypeId} {fr : Nat × Nat} (h : w.heap[g]? = some (.cells (vs ++ rest).toArray e fr)) {j : Nat} {u : Value} (hu : vs[j]? = some u) : w.cell? ⟨g, j, none⟩ = some u := by
  have hl : j < vs.length := (List.getElem?_eq_some_iff.1 hu).1
  simp only [World.cell?, h, Option.isSome_none, Bool.false_eq_true, if_false, List.getElem?_toArray]
  rw [List.getElem?_append_left hl, hu]

/-- Rows of bytes, each of at least one byte, that may be turned. -/
def Turn (w : World) (base : Nat) (vs : List Value) : Prop := ∀ (j : Nat) (u : Value), vs[j]? = some u → ∃ (gj n c : Nat) (D : List UInt8) (rest : List Value), u = .slice (some ⟨gj, 0, none⟩) n c ∧ 0 < n ∧ n ≤ c ∧ c ≤ 9223372036854775807 ∧ D.length = n ∧ base ≤ gj ∧
  w.heap[gj]? = some (.cells (D.map bv ++ rest).toArray 5 (0, 0))
theorem Turn.set {w : World} {base gi : Nat} {vs : List Value} {D : List UInt8} {rest : List Value} (h : Turn w base vs) (hg : w.heap[gi]? = some (.cells (D.map bv ++ rest).toArray 5 (0, 0))) (h0 : 0 < D.length) (y : UInt8) :
    Turn (w.setCell ⟨gi, 0, none⟩ (bv y)) base vs := by
  intro j u hu
  obtain ⟨gj, n, c, D', rest', rfl, h1, h2, h3, h4, h5, h6⟩ := h j u hu
  by_cases e : gj = gi
  · subst e
    rw [h6] at hg
    have hh := row_set h6 (k := 0) (by omega) y
    exact ⟨gj, n, c, _, rest', rfl, h1, h2, h3, by rw [List.length_set]; exact h4, h5, hh⟩
  · exact ⟨gj, n, c, D', rest', rfl, h1, h2, h3, h4, h5, setCell_other h6 e _⟩
theorem OwnL.turn {w : World} {base : Nat} {v : Value} {vs : List Value} {ls : List (List UInt8)} (h : OwnL w base v vs ls) (hpos : ∀ x ∈ ls, 0 < x.length) : Turn w base vs := by
  intro j u hu
  have hj : j < ls.length := by have := (List.getElem?_eq_some_iff.1 hu).1; rw [h.len] at this; exact this
  obtain ⟨u', h1, h2⟩ := h.el j _ (List.getElem?_eq_getElem hj)
  rw [hu] at h1
  cases h1
  obtain ⟨g, cap, rest, rfl, hb, hrow, hnc, hcm, _⟩ := own_row h2 (hpos _ (List.getElem_mem _))
  exact ⟨g, _, cap, _, rest, rfl, hpos _ (List.getElem_mem _), hnc, by unfold maxLen at hcm; exact hcm, rfl, hb, hrow⟩

set_option maxHeartbeats 8000000 in
set_option maxRecDepth 100000 in
theorem walOwn_walk (a0 : Option Addr) (len0 cap0 : Nat) (z0 : List Int) (a1 : Option Addr) (len1 cap1 : Nat) (z1 : List Int) (w : World) (w0 : IsRow .u8 w a0 len0 cap0 z0) (w1 : IsRow .u8 w a1 len1 cap1 z1) :
    Calls Try.prog 17 #[.slice a0 len0 cap0, .slice a1 len1 cap1] w fun e w' => e = .returned (.bool true) ∧ Below w.heap.size w w' := by
  have hlen0 := w0.len_le
  have hcap0 := w0.cap_le
  have hlen1 := w1.len_le
  have hcap1 := w1.cap_le
  by_cases hout : len0 < 1 ∨ 200 < len0 ∨ len1 < 1 ∨ 200 < len1
  · have hcases : len0 < 1 ∨ (¬ len0 < 1 ∧ 200 < len0) ∨ (¬ len0 < 1 ∧ ¬ 200 < len0 ∧ len1 < 1) ∨ (¬ len0 < 1 ∧ ¬ 200 < len0 ∧ ¬ len1 < 1 ∧ 200 < len1) := by omega
    clear hout
    rcases hcases with q1 | ⟨q1, q2⟩ | ⟨q1, q2, q3⟩ | ⟨q1, q2, q3, q4⟩
    all_goals
      go_enter Try.func17, Try.ntmps17
      go_wp2_with fail
      refine (anchor8_any _).mono ?_
      rintro e w3 ⟨rfl, hk1⟩
      go_wp2_with fail
      go_ret
      exact ⟨rfl, hk1.none_below⟩
  · have q1 : ¬ len0 < 1 := by omega
    have q2 : ¬ 200 < len0 := by omega
    have q3 : ¬ len1 < 1 := by omega
    have q4 : ¬ 200 < len1 := by omega
    clear hout
    have hr0 := w0.rdB (by omega)
    have hr1 := w1.rdB (by omega)
    generalize bytesOf z0 len0 = x at *
    generalize bytesOf z1 len1 = y at *
    clear w0 w1
    have HL0 := Lib.hid hr0.len
    have HL1 := Lib.hid hr1.len
    go_enter Try.func17, Try.ntmps17
    go_wp2_with fail
    refine (anchor8_any _).mono ?_
    rintro e w3 ⟨rfl, hk1⟩
    go_wp2_with fail
    refine (new_ex 2048 (by omega) (by omega) w3).mono ?_
    rintro e w4 ⟨p, g, rfl, hD, hp, hg, hk2⟩
    have hk4 := hk1.trans hk2
    have hs3 := hk1.size
    clear hk1 hk2
    go_wp2_with fail
    refine (open_fresh p g 2048 (by omega) (by omega) w4 hD).mono ?_
    rintro e w5 ⟨d, F, b, rfl, hL, hlit, hdl, hW, hF, hk5⟩
    have hk05 : Keeps Non w w5 := hk4.into hk5 fun k h1 h2 => by show False; omega
    have hs4 := hk4.size
    have hs5 := hk5.size
    have hz : Wal.hs d = 1024 := by unfold Wal.hs; rw [hdl]
    have hFw : ∀ k, F k → w.heap.size ≤ k := fun k h => by have := hF k h; omega
    have hpg := hW.disk.lt
    clear hk4 hk5 hD
    -- x
    have hown := own_empty w5 w5.heap.size 5 (Nat.le_refl _)
    have hsrc := src_bytes (P := Try.prog) Try.underlying22 ((hr0.below hk05.none_below).keepN ((Keeps.refl _ _).alloc (.cells #[] 5))) cap0
    have hkF : ∀ wz : World, Keeps Non w5 wz → RdB (wz.alloc (.cells #[] 5)) a1 len1 y := fun wz hk => (hr1.below (hk05.trans hk).none_below).keepN ((Keeps.refl _ _).alloc _)
    go_wp2_with (at_builtin; first
      | (refine wpList_append_src _ rfl _ _ 22 22 rfl w6.heap.size 5 (.int .u8 0) 1 1 Try.underlying22 info_u8 rfl (by decide) (.slice (some ⟨w6.heap.size, 0, none⟩) 0 0) _ _ rfl hownB _ _ _ rfl hsrcB (by unfold maxLen; omega) (by omega) (by simp) ?_; intro v7 w7 hown7 hgrow7 hat7)
      | (refine wpList_append_src _ rfl _ _ 22 22 rfl w5.heap.size 5 (.int .u8 0) 1 1 Try.underlying22 info_u8 rfl (by decide) (.slice (some ⟨w5.heap.size, 0, none⟩) 0 0) _ _ rfl hown _ _ _ rfl hsrc (by unfold maxLen; omega) (by omega) (by simp) ?_; intro v6 w6 hown6 hgrow6 hat6; have hb6 : Below w5.heap.size w5 w6 := ((Below.refl _ _).alloc (Nat.le_refl _) _).grown hgrow6 (by simp) (fun j hj => by simp [Value.ownBlock] at hj; omega); have hk6 : Keeps Non w5 w6 := Keeps.of_below hb6; have hownB := own_empty w6 w6.heap.size 5 (Nat.le_refl _); have hsrcB := src_bytes (P := Try.prog) Try.underlying22 (hkF w6 hk6) cap1))
    have hb7 : Below w6.heap.size w6 w7 := ((Below.refl _ _).alloc (Nat.le_refl _) _).grown hgrow7 (by simp) (fun j hj => by simp [Value.ownBlock] at hj; omega)
    have hk7 : Keeps Non w6 w7 := Keeps.of_below hb7
    simp only [Nat.zero_add, List.nil_append] at hown6 hown7
    obtain ⟨gx, cx, restx, rfl, hgx, hrowx6, hncx, hcmx, _⟩ := own_row hown6 (by omega)
    have hgx6 := (Array.getElem?_eq_some_iff.1 hrowx6).1
    have hrowx := hk7.at_ hrowx6 id
    clear hrowx6
    obtain ⟨gy, cy, resty, rfl, hgy, hrowy, hncy, hcmy, _⟩ := own_row hown7 (by omega)
    unfold maxLen at hcmx hcmy
    have hk57 := hk6.trans hk7
    have hk07 := hk05.trans hk57
    have hW7 := hW.keepN hk57
    have hgx7 := (Array.getElem?_eq_some_iff.1 hrowx).1
    have hgy7 := (Array.getElem?_eq_some_iff.1 hrowy).1
    have hs6 := hk6.size
    have hs7 := hk7.size
    have hold5 := hW.old
    clear hown hsrc hkF hownB hsrcB hgrow6 hat6 hgrow7 hat7 hb6 hb7 hown6 hown7 hW hk6 hk7 hk57 hk05
    have hrx : RdB w7 (some ⟨gx, 0, none⟩) len0 x := row_rdB hrowx HL0.out (by omega)
    have hry : RdB w7 (some ⟨gy, 0, none⟩) len1 y := row_rdB hrowy HL1.out (by omega)
    go_wp2_with fail
    refine (append_step F b p g d _ _ len0 cx x hL (by omega) (by omega) (by rw [hz]; show 16 + (9 + len0) ≤ 1024; omega) w7 hW7 hrx (fun a ha h => by
      cases ha
      rcases h with h | h | h
      · have h : gx = p := h; omega
      · have h : gx = g := h; omega
      · have h : F gx := h; have := hold5 _ h; omega)).mono ?_
    rintro e w8 ⟨d8, -, hdl8, hk8, h8⟩
    rcases h8 with ⟨rfl, hL8, hlit8, F8, hW8, hF8⟩ | ⟨hbad, _⟩
    rotate_left
    · rw [hlit] at hbad; cases hbad
    have hlit8' := hlit8 hlit
    have hz8 : Wal.hs d8 = 1024 := by rw [← hz]; unfold Wal.hs; rw [hdl8]
    have hk08 : Keeps Non w w8 := hk07.into hk8 fun k h1 h2 => by
      show False
      rcases h2 with h | h | h
      · omega
      · omega
      · have := hFw k h; omega
    have hFx : ¬ (gx = p ∨ gx = g ∨ F gx) := fun h => by rcases h with h | h | h; omega; omega; have := hold5 _ h; omega
    have hFy : ¬ (gy = p ∨ gy = g ∨ F gy) := fun h => by rcases h with h | h | h; omega; omega; have := hold5 _ h; omega
    have hrowx8 := hk8.at_ hrowx hFx
    have hrowy8 := hk8.at_ hrowy hFy
    have hF8x : ¬ F8 gx := fun h => by rcases hF8 _ h with h | h; exact hFx (.inr (.inr h)); omega
    have hF8y : ¬ F8 gy := fun h => by rcases hF8 _ h with h | h; exact hFy (.inr (.inr h)); omega
    have hs8 := hk8.size
    clear hrx hry hrowx hrowy hk8 hk07 hW7 hL
    have hrx8 : RdB w8 (some ⟨gx, 0, none⟩) len0 x := row_rdB hrowx8 HL0.out (by omega)
    have hry8 : RdB w8 (some ⟨gy, 0, none⟩) len1 y := row_rdB hrowy8 HL1.out (by omega)
    have hka : Keeps Non w8 (w8.alloc (.cells #[.slice (some ⟨gx, 0, none⟩) len0 cx, .slice (some ⟨gy, 0, none⟩) len1 cy] 22)) := (Keeps.refl _ _).alloc _
    have hold8 := hW8.old
    have hpg8 := hW8.disk.lt
    have hfpg := hW8.fp
    have hfgg := hW8.fg
    have hZx : ¬ (gx = p ∨ gx = g ∨ F8 gx) := fun h => by rcases h with h | h | h; omega; omega; exact hF8x h
    have hZy : ¬ (gy = p ∨ gy = g ∨ F8 gy) := fun h => by rcases h with h | h | h; omega; omega; exact hF8y h
    have hRL : RdLZ (fun k => k = p ∨ k = g ∨ F8 k) (w8.alloc (.cells #[.slice (some ⟨gx, 0, none⟩) len0 cx, .slice (some ⟨gy, 0, none⟩) len1 cy] 22)) (some ⟨w8.heap.size, 0, none⟩) 2 [x, y] :=
      RdLZ.two (heap_new _ _) (fun h => by
        rcases h with h | h | h
        · have h : w8.heap.size = p := h; omega
        · have h : w8.heap.size = g := h; omega
        · have := hold8 _ h; omega) (hrx8.keepN hka) (hry8.keepN hka) ⟨hncx, hcmx⟩ ⟨hncy, hcmy⟩ (fun _ a ha => by cases ha; exact hZx) (fun _ a ha => by cases ha; exact hZy)
    have hfit : ∀ b ∈ ([x, y] : List (List UInt8)), Wal.Fit b := fun b hb => by
      have h0 := HL0.out
      have h1 := HL1.out
      simp at hb
      rcases hb with rfl | rfl
      · exact ⟨by omega, by omega⟩
      · exact ⟨by omega, by omega⟩
    have hcost : 16 + Wal.cost [x, y] ≤ Wal.hs d8 := by
      have h0 := HL0.out
      have h1 := HL1.out
      simp only [Wal.cost]; omega
    have Han := Lib.hid (anew_step F8 b p g d8 _ (some ⟨w8.heap.size, 0, none⟩) 2 2 [x, y] hL8 hfit hcost (by show 1 + 1 ≤ _; omega) _ (hW8.keepN hka) hRL)
    have hk0a := hk08.trans hka
    have hrowx8a := hka.at_ hrowx8 id
    have hrowy8a := hka.at_ hrowy8 id
    have hsa : (w8.alloc (.cells #[.slice (some ⟨gx, 0, none⟩) len0 cx, .slice (some ⟨gy, 0, none⟩) len1 cy] 22)).heap.size = w8.heap.size + 1 := by simp
    have Hsa := Lib.hid hsa
    clear hka hRL hrx8 hry8 hW8 hL8 hk08 hrowx8 hrowy8 hsa
    go_wp2_with fail
    refine Han.out.mono ?_
    rintro e w9 ⟨d9, -, -, hk9, h9⟩
    rcases h9 with ⟨rfl, hL9, -, F9, hW9, hF9⟩ | ⟨hbad, _⟩
    rotate_left
    · rw [hlit8'] at hbad; cases hbad
    have hL9g : ((⟨1 - ((⟨0, 1, 16, [], false⟩ : Wal.Lg).added x).half, ((⟨0, 1, 16, [], false⟩ : Wal.Lg).added x).gen + 1, 16 + Wal.cost [x, y], [x, y], false⟩ : Wal.Lg)) = ⟨1, 2, 16 + Wal.cost [x, y], [x, y], false⟩ := rfl
    rw [hL9g] at hW9
    have hk09 : Keeps Non w w9 := hk0a.into hk9 fun k h1 h2 => by
      show False
      rcases h2 with h | h | h
      · omega
      · omega
      · rcases hF8 k h with h | h
        · have := hFw k h; omega
        · omega
    have hrowx9 := hk9.at_ hrowx8a hZx
    have hrowy9 := hk9.at_ hrowy8a hZy
    have hs9 := hk9.size
    rw [Hsa.out] at hs9 hF9
    have hF9x : ¬ F9 gx := fun h => by rcases hF9 _ h with h | h; exact hF8x h; omega
    have hF9y : ¬ F9 gy := fun h => by rcases hF9 _ h with h | h; exact hF8y h; omega
    obtain ⟨x0, hx0⟩ : ∃ u, x[0]? = some u := ⟨_, List.getElem?_eq_getElem (by rw [HL0.out]; omega)⟩
    obtain ⟨y0, hy0⟩ : ∃ u, y[0]? = some u := ⟨_, List.getElem?_eq_getElem (by rw [HL1.out]; omega)⟩
    obtain ⟨nx, hnx⟩ := not_u8 x0
    obtain ⟨ny, hny⟩ := not_u8 y0
    have ex := row_cell hrowx9 hx0
    have ey := row_cell hrowy9 hy0
    have fx := row_free hrowx9 0
    have fy := row_free hrowy9 0
    have hxy : gx ≠ gy := by omega
    clear Han hrowx8a hrowy8a hk9 hk0a hL9 hx0 hy0 hrowx9 hrowy9 hfit hcost
    go_wp2_with fail
    go_region
    generalize hwA : World.drew _ = wA
    have hkA : Keeps (fun k => k = gx ∨ k = gy) w9 wA := by rw [← hwA]; exact (((Keeps.refl _ _).setCell (fun _ => .inl rfl) _).setCell (fun _ => .inr rfl) _).drew
    have hWA := hW9.keep hkA fun k hk h => by
      rcases h with h | h
      · subst h
        rcases hk with hk | hk | hk
        · exact hF9x hk
        · omega
        · omega
      · subst h
        rcases hk with hk | hk | hk
        · exact hF9y hk
        · omega
        · omega
    have hk0A : Keeps Non w wA := hk09.into hkA fun k h1 h2 => by show False; rcases h2 with h | h <;> omega
    clear hwA hkA hW9 hk09 ex ey fx fy hnx hny
    go_wp2_with fail
    refine (records_any F9 b p g d9 _ wA hWA).mono ?_
    rintro e wB ⟨v, vs, rfl, hown, hkB⟩
    have hvl : vs.length = 2 := hown.len
    have hturn := hown.turn (fun z hz => by
      have h0 := HL0.out
      have h1 := HL1.out
      have hz : z ∈ ([x, y] : List (List UInt8)) := hz
      simp at hz
      rcases hz with rfl | rfl <;> omega)
    obtain ⟨gr, cr, restr, rfl, hgr, hrow, hncr, hcr⟩ := own_rowV hown.row (by show 0 < 2; omega)
    have hl2 : (⟨1, 2, 16 + Wal.cost [x, y], [x, y], false⟩ : Wal.Lg).recs.length = 2 := rfl
    rw [hl2] at hncr ⊢
    have hWB := hWA.keepN hkB
    have hk0B := hk0A.trans hkB
    have hszA := hkB.size
    have hsA := hk0A.size
    have holdA := hWA.old
    have hpgA := hWA.disk.lt
    clear hown hWA hk0A hkB
    go_wp2_with fail
    go_loopw [77] (fun i wr => ∃ j : Nat, j ≤ 2 ∧ i = .int .i64 j ∧ Turn wr wA.heap.size vs ∧ wr.heap[gr]? = some (.cells (vs ++ restr).toArray 22 (0, 0)) ∧ Keeps (fun k => wA.heap.size ≤ k) wB wr) (fun i _ => 2 - (intOf i).toNat)
    case atStart => exact ⟨0, by omega, rfl, hturn, hrow, Keeps.refl _ _⟩
    case round =>
      obtain ⟨j, hj, rfl, hT, hrw, hkr⟩ := hrel
      by_cases hlt : j < 2
      · obtain ⟨u, hu⟩ : ∃ u, vs[j]? = some u := ⟨_, List.getElem?_eq_getElem (by omega)⟩
        have er := row_at hrw hu
        obtain ⟨gj, n, c, D, rest, rfl, hn0, hnc, hcm, hDl, hgj, hgrow⟩ := hT j u hu
        obtain ⟨t0, ht0⟩ : ∃ t, D[0]? = some t := ⟨_, List.getElem?_eq_getElem (by omega)⟩
        have e0 := row_cell hgrow ht0
        have f0 := row_free hgrow 0
        obtain ⟨nt, hnt⟩ := not_u8 t0
        have hne : gr ≠ gj := fun e => by
          subst e
          rw [hrw] at hgrow
          injection hgrow with q
          injection q with _ q2
          exact absurd q2 (by decide)
        have HT := Lib.hid (hT.set hgrow (by omega) nt)
        have HR : Hid ((wr.setCell ⟨gj, 0, none⟩ (bv nt)).heap[gr]? = some (.cells (vs ++ restr).toArray 22 (0, 0))) := setCell_other hrw hne _
        have HK := Lib.hid (hkr.setCell (p := ⟨gj, 0, none⟩) (fun _ => hgj) (bv nt))
        clear hT hrw hkr hgrow ht0 hu
        go_wp2
        go_roundw
        case rel => exact ⟨j + 1, by omega, by go_num, HT.out, HR.out, HK.out⟩
        case measure => simp [intOf]; omega
      · obtain rfl : j = 2 := by omega
        have hWr := hWB.keep hkr fun k hk h => by
          have h : wA.heap.size ≤ k := h
          rcases hk with hk | hk | hk
          · have := holdA k hk; omega
          · omega
          · omega
        have hk0r : Keeps Non w wr := hk0B.into hkr fun k h1 h2 => by have h2 : wA.heap.size ≤ k := h2; show False; omega
        clear hT hrw hkr hWB
        go_wp2_with fail
        refine (records_any F9 b p g d9 _ wr hWr).mono ?_
        rintro e wC ⟨v2, vs2, rfl, hown2, hkC⟩
        obtain ⟨A2, c2, rfl, hrd2, _, _⟩ := hown2.rdL (by show 2 ≤ _; omega) (fun z hz => by
          have h0 := HL0.out
          have h1 := HL1.out
          have hz : z ∈ ([x, y] : List (List UInt8)) := hz
          simp at hz
          rcases hz with rfl | rfl <;> omega)
        rw [hl2] at hrd2 ⊢
        have hWC := hWr.keepN hkC
        have hk0C := hk0r.trans hkC
        have hkD : Keeps Non wC (wC.alloc (.cells #[.slice a0 len0 cap0, .slice a1 len1 cap1] 22)) := (Keeps.refl _ _).alloc _
        have hLr := RdL.two (heap_new wC (.cells #[.slice a0 len0 cap0, .slice a1 len1 cap1] 22)) ((hr0.below hk0C.none_below).keepN hkD) ((hr1.below hk0C.none_below).keepN hkD)
        have hLl : RdL (wC.alloc (.cells #[.slice a0 len0 cap0, .slice a1 len1 cap1] 22)) A2 2 [x, y] := hrd2.below hkD.none_below
        have Hsame := Lib.hid (same8_any A2 (some ⟨wC.heap.size, 0, none⟩) 2 2 c2 2 [x, y] [x, y] _ hLl hLr)
        have hWD := hWC.keepN hkD
        have hk0D := hk0C.trans hkD
        clear hLr hLl hkD hWC hk0C hown2 hrd2 hkC hWr hk0r
        go_wp2_with fail
        refine Hsame.out.mono ?_
        rintro e wE ⟨rfl, qq, rfl⟩
        have hWE := hWD.keepN ((Keeps.refl _ _).drewN qq)
        have hk0E := hk0D.drewN qq
        clear Hsame hWD hk0D
        go_wp2_with fail
        refine (gen_any F9 b p g d9 _ _ hWE).mono ?_
        rintro e w' ⟨rfl, rfl⟩
        go_wp2_with fail
        go_ret
        exact ⟨rfl, hk0E.none_below⟩
end Go.Proofs.Ytbmamhcjbhnkiaa
