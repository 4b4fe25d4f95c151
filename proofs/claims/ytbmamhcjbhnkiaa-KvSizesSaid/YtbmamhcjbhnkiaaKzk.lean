/- Layer 9: the walks of record and whole. -/
import Derived.Test.YtbmamhcjbhnkiaaKzh
import Derived.Test.YtbmamhcjbhnkiaaKyb
namespace Go.Proofs.Ytbmamhcjbhnkiaa
open Go.RowKit Go.Maps
open Kv (Bs Tab)

theorem encAll_take {l : List Kv.St} {j : Nat} (hj : j < l.length) : Kv.encAll (l.take (j + 1)) = Kv.encAll (l.take j) ++ Kv.enc l[j] := by
  rw [List.take_succ_eq_append_getElem hj, Kv.encAll_snoc]
theorem encAll_take_le (l : List Kv.St) (j : Nat) : (Kv.encAll (l.take j)).length ≤ (Kv.encAll l).length := by
  have h : (Kv.encAll (l.take j ++ l.drop j)).length = (Kv.encAll (l.take j)).length + (Kv.encAll (l.drop j)).length := by rw [Kv.encAll, List.map_append, List.flatten_append, List.length_append]; rfl
  rw [List.take_append_drop] at h
  omega

set_option maxHeartbeats 4000000 in
set_option maxRecDepth 100000 in
theorem crecord_any {Y : Nat → Prop} {w : World} {c s m age : Nat} {v : Value} {l : List Kv.St} {T : Tab} {over : Bool} (hl : ∀ p ∈ l, p.ok) (hb : (Kv.encAll l).length ≤ 1048576) (h : Chg Y w c s m v l T age over) :
    Calls Try.prog 94 #[.pointer (some ⟨c, 0, none⟩)] w (RetOwn w (Kv.encAll l)) := by
  obtain ⟨c0, c1, c2, c3, c4⟩ := five h.st
  obtain ⟨R, hR⟩ := h.own
  have hmany := encAll_many l
  obtain ⟨A, cap, rfl, hS, hcap1, hcap2⟩ := hR.rdS (by omega)
  obtain ⟨n, hn⟩ : ∃ n, n = l.length := ⟨_, rfl⟩
  rw [← hn] at c2 hS hcap1
  have HN := Lib.hid hn
  have hnb : n ≤ 1048576 := by omega
  clear h hR hn
  go_enter Try.func94, Try.ntmps94
  go_wp2
  go_loopw [3, 11] (fun v i wr => ∃ j : Nat, j ≤ n ∧ i = .int .i64 j ∧ wr.ownsRow w.heap.size 5 1 v (Kv.encAll (l.take j)).length ((Kv.encAll (l.take j)).map bv) ∧ Below w.heap.size w wr) (fun _ i _ => n - (intOf i).toNat)
  case atStart => exact ⟨0, Nat.zero_le _, rfl, World.ownsRow_nil _ _ _ _, Below.refl _ _⟩
  case round =>
    obtain ⟨j, hj, rfl, hown, hbel⟩ := hrel
    by_cases hlt : j < n
    · have hS' := hS.keepN (Keeps.of_below hbel)
      obtain ⟨b, off, Aj, nj, cj, rfl, h3, hz⟩ := hS'.at_ hlt
      have hlen : j < l.length := by rw [← HN.out]; exact hlt
      have hok := hl l[j] (List.getElem_mem hlen)
      have H2 := Lib.hid (encAll_take hlen)
      have hle := encAll_take_le l (j + 1)
      rw [H2.out, List.length_append] at hle
      obtain ⟨g0, g1, g2⟩ := h3
      obtain ⟨p, hp⟩ : ∃ p, p = l[j] := ⟨_, rfl⟩
      rw [← hp] at g0 g1 hz hok H2 hle
      obtain ⟨l0, hl0⟩ : ∃ l0, l0 = Kv.encAll (l.take j) := ⟨_, rfl⟩
      rw [← hl0] at hown H2 hle
      have hsz := hbel.size
      have kA : Keeps Non wr (wr.alloc (.cells #[kd p, sv p.k, .slice Aj nj cj] 146)) := (Keeps.refl _ _).alloc _
      have hzA := hz.rd.keepN kA
      have hownA := own_kept hown kA (fun _ _ q => q)
      have hbelA : Below w.heap.size w (wr.alloc (.cells #[kd p, sv p.k, .slice Aj nj cj] 146)) := hbel.alloc hsz _
      have HB := Lib.hid (sbytes_any p hok Aj nj cj _ hzA)
      clear hp hl0 hz hown hbel kA hS'
      go_wp2_with fail
      refine HB.out.mono ?_
      rintro e w2 ⟨u, rfl, hu, hk2⟩
      obtain ⟨A2, c2', rfl, r2, -, -, -⟩ := own_rdB hu (by omega)
      have hbel2 : Below w.heap.size w w2 := hbelA.trans (hk2.none_below.mono hbelA.size)
      have hown2 := own_kept hownA hk2 (fun _ _ q => q)
      have hsz2 := hbel2.size
      have hsrc := src_bytes (P := Try.prog) Try.underlying22 r2 c2'
      clear HB hu hk2 hownA hbelA r2
      go_wp2_with (at_builtin; refine hold_it ?_)
      refine let_go ?_
      refine wpList_append_src _ rfl _ _ 22 22 rfl w.heap.size 5 (.int .u8 0) 1 1 Try.underlying22 info_u8 rfl (by decide) u3 _ _ rfl hown2 _ _ _ rfl hsrc (by unfold maxLen; omega) (by omega) hsz2 ?_
      intro v4 w4 hown4 hgrow4 _
      have hbel4 := own_below hown2 hbel2 hgrow4 hsz2
      have HO : Hid (w4.ownsRow w.heap.size 5 1 v4 (l0 ++ Kv.enc p).length ((l0 ++ Kv.enc p).map bv)) := by show World.ownsRow _ _ _ _ _ _ _; rw [List.length_append, List.map_append]; exact hown4
      clear hown4 hgrow4 hown2 hbel2 hsrc g0 g1 g2
      go_wp2_with fail
      go_roundw
      case rel => exact ⟨j + 1, by omega, by go_num, by rw [H2.out]; exact HO.out, hbel4⟩
      case measure => simp [intOf]; omega
    · obtain rfl : j = n := by omega
      have H3 : Hid (l.take j = l) := by show _ = _; rw [List.take_of_length_le (by rw [← HN.out]; exact Nat.le_refl _)]
      rw [H3.out] at hown
      go_wp2_with fail
      go_ret
      exact ⟨u3, rfl, hown, Keeps.of_below hbel⟩

/-- A pair's cells, read. -/
theorem OwnP.at_ {w : World} {base : Nat} {v : Value} {d : List Pr} (h : OwnP w base v d) {j : Nat} {x : Pr} (hx : d[j]? = some x) : ∃ A c g, v = .slice A d.length c ∧ A = some ⟨g, 0, none⟩ ∧ v.ownBlock = some g ∧ base ≤ g ∧ g < w.heap.size ∧ w.cell? ⟨g, j * 2, none⟩ = some (sv x.1.1) ∧ w.cell? ⟨g, j * 2 + 1, none⟩ = some (.slice x.2.1 x.2.2.1 x.2.2.2) := by
  have hj : j < d.length := (List.getElem?_eq_some_iff.1 hx).1
  obtain ⟨A, c, rfl, _, _, hf⟩ := h.form
  obtain ⟨g, cur, rfl, h1, h2, h3, _, h4⟩ := hf (by omega)
  exact ⟨_, c, g, rfl, rfl, h1, h2, (Array.getElem?_eq_some_iff.1 h3).1, row_cellP (i := 0) h3 h4 hx rfl, row_cellP (i := 1) h3 h4 hx rfl⟩
theorem keys_at {d : List Pr} {T : Tab} (h : keys d = T) {j : Nat} {p : Bs × Bs} (hp : T[j]? = some p) : ∃ x, d[j]? = some x ∧ x.1 = p := by
  subst h
  rw [keys, List.getElem?_map] at hp
  cases hd : d[j]? with
  | none => rw [hd] at hp; cases hp
  | some x => rw [hd] at hp; exact ⟨x, rfl, by simpa using hp⟩
theorem puts_take {T : Tab} {j : Nat} {p : Bs × Bs} (hp : T[j]? = some p) : Kv.encAll (Kv.puts (T.take (j + 1))) = Kv.encAll (Kv.puts (T.take j)) ++ Kv.enc ⟨false, p.1, p.2⟩ := by
  obtain ⟨hj, e⟩ := List.getElem?_eq_some_iff.1 hp
  rw [List.take_succ_eq_append_getElem hj, e]
  simp [Kv.puts, Kv.encAll_snoc]

set_option maxHeartbeats 4000000 in
set_option maxRecDepth 100000 in
theorem whole_any (Z : Nat → Prop) (m : Nat) (T : Tab) (hT : T.length ≤ 1048576) (hok : Kv.Ok T) (hsz : Kv.tsize T ≤ 65536) (w : World) (h : TabW Z w m T) :
    Calls Try.prog 95 #[.map (some m)] w (RetOwnL w (Kv.whole T)) := by
  have H := Lib.hid (tscan_any Z m T [] hT w h)
  clear h
  go_enter Try.func95, Try.ntmps95
  go_wp2_with fail
  refine H.out.mono ?_
  rintro e w1 ⟨vp, d, rfl, hd, hP, hk1⟩
  rw [Kv.pre_nil] at hd
  have hdl : d.length = T.length := by rw [← hd]; simp [keys]
  obtain ⟨Ap, cp, rfl, hcp1, hcp2, -⟩ := hP.form
  obtain ⟨n, hn⟩ : ∃ n, n = d.length := ⟨_, rfl⟩
  have HN := Lib.hid (show n = T.length by rw [hn, hdl])
  have hnb : n ≤ 1048576 := by omega
  have hbel1 : Below w.heap.size w w1 := hk1.none_below
  have hz1 := hk1.size
  rw [← hn] at hP hcp1 ⊢
  have HD := Lib.hid hd
  have HDn := Lib.hid hn
  clear H hd hdl hk1 hn
  go_wp2
  go_loopw [3, 4, 11] (fun v3 v i wr => v3 = .slice none 0 0 ∧ ∃ j : Nat, j ≤ n ∧ i = .int .i64 j ∧ wr.ownsRow w1.heap.size 5 1 v (Kv.encAll (Kv.puts (T.take j))).length ((Kv.encAll (Kv.puts (T.take j))).map bv) ∧ Below w1.heap.size w1 wr) (fun _ _ i _ => n - (intOf i).toNat)
  case atStart => exact ⟨rfl, 0, Nat.zero_le _, rfl, World.ownsRow_nil _ _ _ _, Below.refl _ _⟩
  case round =>
    obtain ⟨rfl, j, hj, rfl, hown, hbel⟩ := hrel
    obtain ⟨A4, q4, rfl⟩ := own_slice hown
    have hszr := hbel.size
    by_cases hlt : j < n
    · have hlen : j < T.length := by rw [← HN.out]; exact hlt
      obtain ⟨p, hp⟩ : ∃ p, T[j]? = some p := ⟨_, List.getElem?_eq_getElem hlen⟩
      obtain ⟨x, hx, hxp⟩ := keys_at HD.out hp
      have hPr := hP.keep (Keeps.of_below (S := Non) hbel) (fun _ _ q => q)
      have hcell : ∃ g, Ap = some ⟨g, 0, none⟩ ∧ wr.cell? ⟨g, j * 2, none⟩ = some (sv p.1) ∧ wr.cell? ⟨g, j * 2 + 1, none⟩ = some (.slice x.2.1 x.2.2.1 x.2.2.2) ∧ RdB wr x.2.1 x.2.2.1 p.2 := by
        obtain ⟨A', c', g, e1, e2, -, -, -, e3, e4⟩ := hPr.at_ hx
        rw [hxp] at e3
        injection e1 with e1
        exact ⟨g, by rw [e1, e2], e3, e4, by rw [← hxp]; exact (hPr.el x (List.mem_of_getElem? hx)).1⟩
      obtain ⟨g, rfl, q0, q1, hrd⟩ := hcell
      have hok1 := hok p (List.mem_of_getElem? hp)
      have H2 := Lib.hid (puts_take hp)
      have hle1 := Kv.encAll_puts (T.take (j + 1))
      have hle2 := Kv.tsize_take_le T (j + 1)
      rw [H2.out, List.length_append] at hle1
      obtain ⟨pk, pv⟩ := p
      obtain ⟨⟨xk, xv⟩, Ax, nx, cx⟩ := x
      simp only [] at q0 q1 hrd hok1 H2 hle1
      obtain ⟨l0, hl0⟩ : ∃ l0, l0 = Kv.encAll (Kv.puts (T.take j)) := ⟨_, rfl⟩
      rw [← hl0] at hown H2 hle1 ⊢
      have kA : Keeps Non wr (wr.alloc (.cells #[sv pk, .slice Ax nx cx] 114)) := (Keeps.refl _ _).alloc _
      have hrdA := hrd.keepN kA
      have hownA := own_kept hown kA (fun _ _ q => q)
      have hbelA : Below w1.heap.size w1 (wr.alloc (.cells #[sv pk, .slice Ax nx cx] 114)) := hbel.alloc hszr _
      have HB := Lib.hid (sbytes_put pk pv hok1.2.1 hok1.2.2 Ax nx cx _ hrdA)
      obtain ⟨bs, hbs⟩ : ∃ bs, bs = Kv.enc ⟨false, pk, pv⟩ := ⟨_, rfl⟩
      rw [← hbs] at HB H2 hle1
      obtain ⟨n0, hn0⟩ : ∃ n0, n0 = l0.length := ⟨_, rfl⟩
      rw [← hn0] at hown hownA hle1 ⊢
      have HN0 := Lib.hid hn0
      clear hp hx hxp hl0 hbs hrd hown hbel kA hPr hn0
      go_wp2_with fail
      refine HB.out.mono ?_
      rintro e w2 ⟨u, rfl, hu, hk2⟩
      obtain ⟨A2, c2', rfl, r2, -, -, -⟩ := own_rdB hu (by omega)
      have hbel2 : Below w1.heap.size w1 w2 := hbelA.trans (hk2.none_below.mono hbelA.size)
      have hown2 := own_kept hownA hk2 (fun _ _ q => q)
      have hsz2 := hbel2.size
      have hsrc := src_bytes (P := Try.prog) Try.underlying22 r2 c2'
      have hno : ¬ 65536 < n0 + bs.length := by omega
      clear HB hu hk2 hownA hbelA r2 hrdA q0 q1
      go_wp2_with (at_builtin; refine hold_it ?_)
      refine let_go ?_
      refine wpList_append_src _ rfl _ _ 22 22 rfl w1.heap.size 5 (.int .u8 0) 1 1 Try.underlying22 info_u8 rfl (by decide) (.slice A4 n0 q4) n0 _ rfl hown2 _ _ _ rfl hsrc (by unfold maxLen; omega) (by omega) hsz2 ?_
      intro v5 w5 hown5 hgrow5 _
      have hbel5 := own_below hown2 hbel2 hgrow5 hsz2
      have HO : Hid (w5.ownsRow w1.heap.size 5 1 v5 (l0 ++ bs).length ((l0 ++ bs).map bv)) := by show World.ownsRow _ _ _ _ _ _ _; rw [List.length_append, ← HN0.out, List.map_append]; exact hown5
      clear hown5 hgrow5 hown2 hbel2 hsrc
      go_wp2_with fail
      go_roundw
      case rel => exact ⟨rfl, j + 1, by omega, by go_num, by rw [H2.out]; exact HO.out, hbel5⟩
      case measure => simp [intOf]; omega
    · obtain rfl : j = n := by omega
      have H3 : Hid (T.take j = T) := by show _ = _; rw [List.take_of_length_le (by rw [← HN.out]; exact Nat.le_refl _)]
      rw [H3.out] at hown ⊢
      by_cases hT0 : T = []
      · subst hT0
        have e0 : (Kv.encAll (Kv.puts [])).length = 0 := rfl
        rw [e0] at hown ⊢
        have HW : Hid (Kv.whole [] = []) := rfl
        rw [HW.out]
        have hkr := hbel1.trans (hbel.mono hz1)
        clear hown hbel hP H3
        go_wp2_with fail
        go_ret
        exact ⟨.slice none 0 0, [], rfl, OwnL.nil _ _, Keeps.of_below hkr⟩
      · have hpos := Kv.tsize_pos hT0
        have hlen := Kv.encAll_puts T
        have HW : Hid (Kv.whole T = [Kv.encAll (Kv.puts T)]) := by show _ = _; unfold Kv.whole; rw [if_neg hT0]
        rw [HW.out]
        obtain ⟨bs, hbs⟩ : ∃ bs, bs = Kv.encAll (Kv.puts T) := ⟨_, rfl⟩
        rw [← hbs] at hown hlen ⊢
        obtain ⟨n0, hn0⟩ : ∃ n0, n0 = bs.length := ⟨_, rfl⟩
        rw [← hn0] at hown hlen ⊢
        have HN0 := Lib.hid hn0
        have HBs := Lib.hid hbs
        have hn0p : 0 < n0 := by omega
        have hn0i : (0 : Int) < (n0 : Int) := by omega
        have hkr := hbel1.trans (hbel.mono hz1)
        have kA : Keeps Non wr (wr.alloc (.cells #[.slice A4 n0 q4] 22)) := (Keeps.refl _ _).alloc _
        have hownA := own_kept hown kA (fun _ _ q => q)
        have hkA := Keeps.of_below (S := Non) (hkr.alloc hkr.size (.cells #[.slice A4 n0 q4] 22))
        have hsrc := Src.ofSlice (P := Try.prog) (w := wr.alloc (.cells #[.slice A4 n0 q4] 22)) (size := 1) Try.underlying28 ⟨wr.heap.size, 0, none⟩ 1 1 [.slice A4 n0 q4] rfl (World.news_of_block (heap_new _ _)) (fun u hu => by simp at hu; subst hu; rfl)
        have hzA : w.heap.size ≤ (wr.alloc (.cells #[.slice A4 n0 q4] 22)).heap.size := hkA.size
        have hL0 : OwnL (wr.alloc (.cells #[.slice A4 n0 q4] 22)) w.heap.size (.slice none 0 0) [] [] := OwnL.nil _ _
        have hownA' := own_base hownA hz1
        clear hbs hT0 hpos hlen hn0 hown hbel hP H3 kA hownA hkr
        go_wp2_with (at_builtin; refine hold_it ?_)
        refine let_go ?_
        refine wpList_append_src _ rfl _ _ 28 28 rfl w.heap.size 22 (.slice none 0 0) 1 24 Try.underlying28 info_sl rfl (by decide) (.slice none 0 0) 0 [] rfl hL0.row _ _ _ rfl hsrc (by unfold maxLen; omega) (by omega) hzA ?_
        intro v5 w5 hown5 hgrow5 _
        have hL5 := hL0.push (x := bs) (u := .slice A4 n0 q4) (by rw [← HN0.out]; exact hownA') hgrow5 hown5
        have hk5 := hkA.trans ((Keeps.of_grown hgrow5).mono (fun _ _ q => by simp [Value.ownBlock] at q))
        have HL5 := Lib.hid hL5
        clear hown5 hgrow5 hL5 hL0 hsrc hownA' hkA
        go_wp2_with fail
        go_ret
        exact ⟨v5, [] ++ [.slice A4 n0 q4], rfl, by rw [HW.out, ← HBs.out]; exact HL5.out, hk5⟩
end Go.Proofs.Ytbmamhcjbhnkiaa
