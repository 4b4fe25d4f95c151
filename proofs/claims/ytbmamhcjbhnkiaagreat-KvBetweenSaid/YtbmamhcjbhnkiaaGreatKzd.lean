/- Layer 9: rows of structs of one's own, each with a slice of bytes. -/
import Derived.Test.YtbmamhcjbhnkiaaGreatKzc
import Derived.Deep.AppendLies
namespace Go.Proofs.YtbmamhcjbhnkiaaGreat
open Go.RowKit Go.Maps
open Kv (Bs Tab)

theorem flatten_get {α : Type} {sz : Nat} : ∀ (L : List (List α)), (∀ x ∈ L, x.length = sz) → ∀ (j i : Nat), i < sz → L.flatten[j * sz + i]? = (L[j]?).bind fun x => x[i]?
  | [], _, j, i, _ => by simp
  | x :: L, h, 0, i, hi => by
    have hx := h x (by simp)
    rw [Nat.zero_mul, Nat.zero_add, List.flatten_cons, List.getElem?_append_left (by omega)]
    simp
  | x :: L, h, j + 1, i, hi => by
    have hx := h x (by simp)
    have := flatten_get L (fun y hy => h y (by simp [hy])) j i hi
    rw [List.flatten_cons, List.getElem?_append_right (by rw [hx, Nat.add_mul]; omega), hx, Nat.add_mul, show j * sz + 1 * sz + i - sz = j * sz + i by omega, this]
    simp
theorem zip_len {α : Type} {f : α → Value → List Value} {sz : Nat} (hf : ∀ a s, (f a s).length = sz) : ∀ (l : List α) (S : List Value), ∀ x ∈ List.zipWith f l S, x.length = sz
  | [], _, x, h => by simp at h
  | _ :: _, [], x, h => by simp at h
  | a :: l, s :: S, x, h => by
    rcases List.mem_cons.1 (by simpa using h) with rfl | h
    · exact hf a s
    · exact zip_len hf l S x h
theorem zip_snoc {α : Type} {f : α → Value → List Value} (x : α) (s : Value) : ∀ (l : List α) (S : List Value), S.length = l.length → (List.zipWith f (l ++ [x]) (S ++ [s])).flatten = (List.zipWith f l S).flatten ++ f x s
  | [], [], _ => by simp
  | [], _ :: _, h => by simp at h
  | _ :: _, [], h => by simp at h
  | a :: l, t :: S, h => by
    have := zip_snoc (f := f) x s l S (by simpa using h)
    simp [this]

/-- A row of structs of one's own; the slices S in them hold the bytes. -/
structure OwnE {α : Type} (f : α → Value → List Value) (sz : Nat) (byt : α → Bs) (T : TypeId) (w : World) (base : Nat) (v : Value) (l : List α) (S : List Value) : Prop where
  row : w.ownsRow base T sz v l.length (List.zipWith f l S).flatten
  sl : S.length = l.length
  el : ∀ (j : Nat) (p : α), l[j]? = some p → ∃ A n c, S[j]? = some (.slice A n c) ∧ RdB w A n (byt p) ∧ n ≤ c ∧ c ≤ 9223372036854775807 ∧ (0 < n → ∀ a, A = some a → base ≤ a.block ∧ v.ownBlock ≠ some a.block)

section
variable {α : Type} {f : α → Value → List Value} {sz : Nat} {byt : α → Bs} {T : TypeId} {w : World} {base : Nat} {v : Value} {l : List α} {S : List Value}
theorem OwnE.nil (f : α → Value → List Value) (sz : Nat) (byt : α → Bs) (T : TypeId) (w : World) (base : Nat) : OwnE f sz byt T w base (.slice none 0 0) [] [] :=
  ⟨World.ownsRow_nil _ _ _ _, rfl, fun j p h => by simp at h⟩
theorem OwnE.keep {Z : Nat → Prop} {w' : World} (h : OwnE f sz byt T w base v l S) (hk : Keeps Z w w') (hZ : ∀ k, base ≤ k → ¬ Z k) : OwnE f sz byt T w' base v l S :=
  ⟨own_kept h.row hk fun g hg => hZ g (own_ge h.row g hg), h.sl, fun j p hp => by
    obtain ⟨A, n, c, h1, h2, h3, h4, h5⟩ := h.el j p hp
    exact ⟨A, n, c, h1, h2.keep hk (fun q a ha => hZ _ (h5 q a ha).1), h3, h4, h5⟩⟩
theorem OwnE.push {w1 : World} {v' : Value} {x : α} {A : Option Addr} {n c : Nat} (h : OwnE f sz byt T w base v l S) (hr : RdB w A n (byt x)) (hnc : n ≤ c) (hcm : c ≤ 9223372036854775807) (hA : 0 < n → ∀ a, A = some a → base ≤ a.block ∧ v.ownBlock ≠ some a.block)
    (hgrow : w.grownBy w1 v.ownBlock) (hloc : v'.ownBlock = v.ownBlock ∨ v'.ownBlock = some w.heap.size) (hown : w1.ownsRow base T sz v' (l.length + 1) ((List.zipWith f l S).flatten ++ f x (.slice A n c))) :
    OwnE f sz byt T w1 base v' (l ++ [x]) (S ++ [.slice A n c]) := by
  have hk := Keeps.of_grown hgrow
  have hsl := h.sl
  refine ⟨by rw [zip_snoc x _ l S hsl]; simpa using hown, by simp [hsl], fun j p hp => ?_⟩
  have turn : ∀ {A : Option Addr} {n : Nat} {q : Bs}, RdB w A n q → (0 < n → ∀ a, A = some a → base ≤ a.block ∧ v.ownBlock ≠ some a.block) → RdB w1 A n q ∧ (0 < n → ∀ a, A = some a → base ≤ a.block ∧ v'.ownBlock ≠ some a.block) := fun {A n q} hq hb =>
    ⟨hq.keep hk (fun q0 a ha e => (hb q0 a ha).2 e.symm), fun q0 a ha => ⟨(hb q0 a ha).1, fun e => by
      rcases hloc with e' | e'
      · exact (hb q0 a ha).2 (e' ▸ e)
      · have := hq.old q0 a ha
        rw [e'] at e
        injection e with e
        omega⟩⟩
  by_cases hj : j < l.length
  · rw [List.getElem?_append_left hj] at hp
    obtain ⟨A', n', c', h1, h2, h3, h4, h5⟩ := h.el j p hp
    obtain ⟨t1, t2⟩ := turn h2 h5
    exact ⟨A', n', c', by rw [List.getElem?_append_left (by omega)]; exact h1, t1, h3, h4, t2⟩
  · have hj' : j = l.length := by
      have := (List.getElem?_eq_some_iff.1 hp).1
      simp at this; omega
    subst hj'
    rw [List.getElem?_append_right (Nat.le_refl _)] at hp
    simp at hp
    subst hp
    obtain ⟨t1, t2⟩ := turn hr hA
    exact ⟨A, n, c, by rw [List.getElem?_append_right (by omega)]; simp [hsl], t1, hnc, hcm, t2⟩
/-- Where its cells lie. -/
theorem OwnE.form (h : OwnE f sz byt T w base v l S) (hf : ∀ a s, (f a s).length = sz) : ∃ A c, v = .slice A l.length c ∧ l.length ≤ c ∧ c ≤ 9223372036854775807 ∧
    (0 < l.length → ∃ g, A = some ⟨g, 0, none⟩ ∧ v.ownBlock = some g ∧ base ≤ g ∧ g < w.heap.size ∧ ∀ (j i : Nat) (p : α) (s u : Value), l[j]? = some p → S[j]? = some s → (f p s)[i]? = some u → w.cell? ⟨g, j * sz + i, none⟩ = some u) := by
  rcases h.row.2 with ⟨rfl, h0⟩ | ⟨g, cap, cur, rfl, hg0, hg, hnc, hcm, hcs, htake⟩
  · have : l = [] := List.eq_nil_of_length_eq_zero h0
    subst this
    exact ⟨none, 0, rfl, Nat.le_refl _, by omega, fun q => by simp at q⟩
  · refine ⟨_, cap, rfl, hnc, hcm, fun _ => ⟨g, rfl, rfl, hg0, (Array.getElem?_eq_some_iff.1 hg).1, fun j i p s u hp hs hu => ?_⟩⟩
    have hi : i < sz := by rw [← hf p s]; exact (List.getElem?_eq_some_iff.1 hu).1
    have hj : j < l.length := (List.getElem?_eq_some_iff.1 hp).1
    have h1 := flatten_get (List.zipWith f l S) (zip_len hf l S) j i hi
    have h2 : (List.zipWith f l S)[j]? = some (f p s) := by rw [List.getElem?_zipWith, hp, hs]
    rw [h2] at h1
    simp only [Option.bind_some, hu] at h1
    rw [← htake] at h1
    have hlt : j * sz + i < l.length * sz := by
      have := Nat.mul_le_mul_right sz (show j + 1 ≤ l.length from hj)
      rw [Nat.add_mul] at this
      omega
    rw [List.getElem?_take, if_pos hlt, Array.getElem?_toList] at h1
    simp only [World.cell?, hg, Option.isSome_none, Bool.false_eq_true, if_false]
    exact h1
end

/-- A step's cells. -/
abbrev stf (p : Kv.St) (s : Value) : List Value := [kd p, sv p.k, s]
abbrev OwnS (w : World) (base : Nat) (v : Value) (l : List Kv.St) (S : List Value) : Prop := OwnE stf 3 (fun p => p.v) 97 w base v l S
theorem OwnE.rdS {w : World} {base : Nat} {v : Value} {l : List Kv.St} {S : List Value} (h : OwnS w base v l S) (hle : l.length ≤ 140737488355328) {Z : Nat → Prop} (hZ : ∀ k, base ≤ k → v.ownBlock ≠ some k → ¬ Z k) :
    ∃ A c, v = .slice A l.length c ∧ RdS Z w A l.length l ∧ l.length ≤ c ∧ c ≤ 9223372036854775807 := by
  obtain ⟨A, c, rfl, h1, h2, h3⟩ := h.form fun _ _ => rfl
  refine ⟨A, c, rfl, ⟨rfl, hle, fun h0 => ?_⟩, h1, h2⟩
  obtain ⟨g, rfl, -, hg, hlt, hc⟩ := h3 h0
  refine ⟨g, 0, rfl, fun j p hp => ?_⟩
  obtain ⟨A, n, c, q1, q2, q3, q4, q5⟩ := h.el j p hp
  refine ⟨A, n, c, ⟨?_, ?_, ?_⟩, ⟨q2, q3, q4, fun q0 a ha => hZ _ (q5 q0 a ha).1 (q5 q0 a ha).2⟩⟩
  · have := hc j 0 p _ _ hp q1 rfl
    simpa using this
  · have := hc j 1 p _ _ hp q1 rfl
    rw [Nat.zero_add]; exact this
  · have := hc j 2 p _ _ hp q1 rfl
    rw [Nat.zero_add]; exact this

theorem info_step : (Tryz.prog.info? 97).map (fun i => (i.zero, i.size, i.bytes)) = some (some (.agg #[.int .u8 0, .string ⟨#[]⟩, .slice none 0 0]), 3, 48) := by kernel_rfl

/-- How many bytes a reader has left. -/
def rleft (w : World) (r : Nat) : Nat := match w.heap[r]? with
  | some (.cells cs _ _) => (match cs[0]? with | some (Value.slice _ n _) => n | _ => 0)
  | _ => 0
theorem Rdr.left {w : World} {r q : Nat} {l : Bs} (h : Rdr w r q l) : rleft w r = l.length := by
  obtain ⟨A, n, c, h1, h2, _⟩ := h
  simp [rleft, h1, h2.len]
theorem encAll_drop {l : List Kv.St} {j : Nat} (h : j < l.length) : Kv.encAll (l.drop j) = Kv.enc l[j] ++ Kv.encAll (l.drop (j + 1)) := by
  rw [List.drop_eq_getElem_cons h, Kv.encAll_cons]
theorem enc_pos (p : Kv.St) : 2 ≤ (Kv.enc p).length := by rw [Kv.enc_length]; omega
theorem encAll_many : ∀ (l : List Kv.St), l.length * 2 ≤ (Kv.encAll l).length
  | [] => by simp [Kv.encAll]
  | p :: l => by have := encAll_many l; have := enc_pos p; rw [Kv.encAll_cons, List.length_append, List.length_cons]; omega

/-- What steps answers. -/
def RetSteps (w : World) (l : List Kv.St) (e : Ending) (w' : World) : Prop := ∃ v S, e = .returned (.tuple #[v, .bool true]) ∧ OwnS w' w.heap.size v l S ∧ Keeps Non w w'

set_option maxHeartbeats 8000000 in
set_option maxRecDepth 100000 in
theorem steps_any (l : List Kv.St) (hl : ∀ p ∈ l, p.ok) (A : Option Addr) (n c : Nat) (hn : n ≤ 1048576) (hnc : n ≤ c) (hcm : c ≤ 9223372036854775807) (w : World) (hr : RdB w A n (Kv.encAll l)) :
    Calls Tryz.prog 31 #[.slice A n c] w (RetSteps w l) := by
  have hmany := encAll_many l
  rw [hr.len] at hmany
  have h0 : Rdr (w.alloc (.cells #[.slice A n c, .bool false] 107)) w.heap.size w.heap.size (Kv.encAll l) :=
    ⟨A, n, c, heap_new _ _, hr.keepN ((Keeps.refl _ _).alloc _), hnc, hcm, fun q a ha => hr.old q a ha⟩
  obtain ⟨r, hrr⟩ : ∃ r, r = w.heap.size := ⟨_, rfl⟩
  have k0 : Keeps Non w (w.alloc (.cells #[.slice A n c, .bool false] 107)) := (Keeps.refl _ _).alloc _
  have HR := Lib.hid hrr
  rw [← hrr] at h0
  clear hr hrr
  go_enter Tryz.func31, Tryz.ntmps31
  go_wp2
  rw [← HR.out]
  go_loopw [5] (fun v wr => ∃ (j : Nat) (S : List Value), j ≤ l.length ∧ Rdr wr r r (Kv.encAll (l.drop j)) ∧ OwnS wr (r + 1) v (l.take j) S ∧ Keeps Non w wr) (fun _ wr => rleft wr r)
  case atStart => exact ⟨0, [], Nat.zero_le _, h0, OwnE.nil _ _ _ _ _ _, k0⟩
  case round =>
    clear h0 k0
    obtain ⟨j, S, hj, hR, hO, hk⟩ := hrel
    by_cases hlt : j < l.length
    · have hok := hl l[j] (List.getElem_mem hlt)
      have H2 : Hid (l.take (j + 1) = l.take j ++ [l[j]]) := List.take_succ_eq_append_getElem hlt
      have HK : Hid ((l.take j).length = j) := by show _ = _; rw [List.length_take]; omega
      have hleft := hR.left
      rw [encAll_drop hlt] at hR hleft
      obtain ⟨p, hp⟩ : ∃ p, p = l[j] := ⟨_, rfl⟩
      rw [← hp] at hok H2 hR hleft
      have HLf := Lib.hid hleft
      clear hp hleft
      obtain ⟨Ar, nr, cr, br, rr⟩ := id hR
      have c0 : wr.cell? ⟨r, 0, none⟩ = some (.slice Ar nr cr) := by simp [World.cell?, br]
      have c1 : wr.cell? ⟨r, 1, none⟩ = some (.bool false) := by simp [World.cell?, br]
      have hnr : 0 < nr := by have := rr.1.len; rw [List.length_append] at this; have := enc_pos p; omega
      have hS := Lib.hid (rstep_any r r p hok _ wr (Nat.le_refl _) hR)
      clear br rr hR
      go_wp2_with fail
      refine hS.out.mono ?_
      rintro e w2 ⟨A2, n2, s2, rfl, r2, nc2, cm2, g2, h2, k2⟩
      have hrlt : r < wr.heap.size := World.block_lt_of_cell? wr _ c0
      have hO2 := hO.keep k2 (fun k hk e => by omega)
      have hk2 : Keeps Non w w2 := hk.into k2 (fun k hk e => by have := HR.out; show False; omega)
      have hown2 : ∀ g, u5.ownBlock = some g → g < wr.heap.size := fun g hg => by
        rcases hO.row.2 with ⟨rfl, _⟩ | ⟨g', cap, cur, rfl, hb, hg', _⟩
        · simp [Value.ownBlock] at hg
        · have : g' = g := by simpa [Value.ownBlock] using hg
          subst this
          exact (Array.getElem?_eq_some_iff.1 hg').1
      clear hS c0 c1 hO hk
      have kA : Keeps Non w2 (w2.alloc (.cells #[kd p, sv p.k, .slice A2 n2 s2] 97)) := (Keeps.refl _ _).alloc _
      have hOA := hO2.keep kA (fun _ _ q => q)
      have hrA := r2.keepN kA
      have hRA := h2.keepN kA
      have hk3 := hk2.trans kA
      have hz3 : wr.heap.size < (w2.alloc (.cells #[kd p, sv p.k, .slice A2 n2 s2] 97)).heap.size := by have := k2.size; simp; omega
      have hrow := hOA.row
      rw [HK.out] at hrow
      have hsrc := Src.ofSlice (P := Tryz.prog) (w := w2.alloc (.cells #[kd p, sv p.k, .slice A2 n2 s2] 97)) (size := 3) Tryz.underlying81 ⟨w2.heap.size, 0, none⟩ 1 1 [kd p, sv p.k, .slice A2 n2 s2] rfl (World.news_of_block (heap_new _ _)) (fun u hu => by simp at hu; rcases hu with rfl | rfl | rfl <;> rfl)
      go_wp2_with (at_builtin; refine hold_it ?_)
      refine let_go ?_
      refine wpList_append_src _ rfl _ _ 81 81 rfl (r + 1) 97 (.agg #[.int .u8 0, .string ⟨#[]⟩, .slice none 0 0]) 3 48 Tryz.underlying81 info_step rfl (by decide) u5 j _ rfl hrow _ _ _ rfl hsrc (by unfold maxLen; omega) (by omega) (by omega) ?_
      intro v4 w4 hown4 hgrow4 hloc4
      have hO4 := hOA.push (v' := v4) hrA nc2 cm2 (fun _ a ha => ⟨by have := g2 a ha; omega, fun e => by have := hown2 _ e; have := g2 a ha; omega⟩) hgrow4 hloc4 (by rw [HK.out]; exact hown4)
      have k4 := Keeps.of_grown hgrow4
      have hrne : ¬ some r = u5.ownBlock := fun e => by have := own_ge hrow r e.symm; omega
      have hR4 := hRA.keep k4 hrne (fun k hk => by have := own_ge hrow k hk.symm; omega)
      have hk4 := hk3.into k4 (fun k hk e => by have := own_ge hrow k e.symm; have := HR.out; show False; omega)
      have hleft4 := hR4.left
      have Hm : Hid (rleft w4 r < rleft wr r) := by show _ < _; rw [hleft4, HLf.out, List.length_append]; have := enc_pos p; omega
      have HO4 := Lib.hid hO4
      clear hO2 hOA hrA hRA hk3 hz3 hrow hsrc hown4 hgrow4 hloc4 kA h2 r2 k2 hk2 hown2 hO4 k4 hrne hleft4
      go_wp2_with fail
      go_roundw
      case rel => exact ⟨j + 1, _, by omega, hR4, by rw [H2.out]; exact HO4.out, hk4⟩
      case measure => exact Hm.out
    · obtain rfl : j = l.length := by omega
      rw [List.take_of_length_le (Nat.le_refl _)] at hO
      rw [List.drop_of_length_le (Nat.le_refl _)] at hR
      obtain ⟨Ar, nr, cr, br, rr⟩ := id hR
      have hnr : nr = 0 := by have := rr.1.len; simpa [Kv.encAll] using this.symm
      subst hnr
      have c0 : wr.cell? ⟨r, 0, none⟩ = some (.slice Ar 0 cr) := by simp [World.cell?, br]
      have c1 : wr.cell? ⟨r, 1, none⟩ = some (.bool false) := by simp [World.cell?, br]
      have HO := Lib.hid hO
      clear br rr hR hO
      go_wp2_with fail
      go_quiet (fail)
      go_wp2_with fail
      go_ret2
      have kq : Keeps Non wr (wr.drewN nq) := (Keeps.refl _ _).drewN nq
      exact ⟨u5, S, rfl, by
        have h := HO.out.keep kq (fun _ _ q => q)
        exact ⟨own_base h.row (by have := HR.out; omega), h.sl, fun j p hp => by
          obtain ⟨A, n, c, q1, q2, q3, q4, q5⟩ := h.el j p hp
          exact ⟨A, n, c, q1, q2, q3, q4, fun q0 a ha => ⟨by have := (q5 q0 a ha).1; have := HR.out; omega, (q5 q0 a ha).2⟩⟩⟩, hk.trans kq⟩
end Go.Proofs.YtbmamhcjbhnkiaaGreat
