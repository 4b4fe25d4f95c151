/- Layer 9: the walks of the reference's Scan, and of listed. -/
import Derived.Test.YtbmamhcjbhnkiaaKzs
namespace Go.Proofs.Ytbmamhcjbhnkiaa
open Go.RowKit Go.Maps
open Kv (Bs Tab)

theorem pre_take_snoc (s : Bs) {T : Tab} {j : Nat} {p : Bs × Bs} (h : T[j]? = some p) : Kv.pre s (T.take (j + 1)) = Kv.pre s (T.take j) ++ (if s.isPrefixOf p.1 then [p] else []) := by
  obtain ⟨hj, e⟩ := List.getElem?_eq_some_iff.1 h
  rw [List.take_succ_eq_append_getElem hj, e]
  exact pre_snoc s _ p
theorem pre_take_len (s : Bs) (T : Tab) (j : Nat) : (Kv.pre s (T.take j)).length ≤ j := Nat.le_trans (List.length_filter_le _ _) (by simp; omega)

set_option maxHeartbeats 4000000 in
set_option maxRecDepth 100000 in
theorem rscan_any (Z : Nat → Prop) (A : Option Addr) (n c : Nat) (T : Tab) (s : Bs) (w : World) (hr : RdR Z w A n T) :
    Calls Try.prog 65 #[.slice A n c, sv s] w (RetR w (Kv.pre s T)) := by
  have HN := Lib.hid hr.len
  have hnb := hr.le
  go_enter Try.func65, Try.ntmps65
  go_wp2
  go_loopw [5, 6] (fun v i wr => ∃ j : Nat, j ≤ n ∧ i = .int .i64 j ∧ OwnR wr w.heap.size v (Kv.pre s (T.take j)) ∧ Below w.heap.size w wr) (fun _ i _ => n - (intOf i).toNat)
  case atStart => exact ⟨0, Nat.zero_le _, rfl, OwnR.nil _ _, Below.refl _ _⟩
  case round =>
    obtain ⟨j, hj, rfl, hO, hbel⟩ := hrel
    have hOl := pre_take_len s T j
    by_cases hlt : j < n
    · obtain ⟨b, off, ⟨yk, yv⟩, rfl, hy, q0, q1⟩ := (hr.below hbel).at_ hlt
      simp only [] at q0 q1
      have HP := Lib.hid (pre_take_snoc s hy)
      simp only [] at HP
      clear hy
      obtain ⟨O, hO0⟩ : ∃ O, O = Kv.pre s (T.take j) := ⟨_, rfl⟩
      rw [← hO0] at hO HP hOl
      clear hO0
      unfold OwnR at hO
      obtain ⟨A7, q7, rfl⟩ := own_slice hO
      by_cases hpl : s.length ≤ yk.length
      · have ek := take_prefix yk s
        have et := ext_take yk s.length
        obtain ⟨ok, hok⟩ : ∃ ok, ok = s.isPrefixOf yk := ⟨_, rfl⟩
        rw [← hok] at HP ek
        clear hok
        cases ok with
        | true =>
          have kA1 : Keeps Non wr (wr.alloc (.cells #[sv yk, sv yv] 149)) := (Keeps.refl _ _).alloc _
          have oA1 := own_kept hO kA1 (fun _ _ q => q)
          have bA1 : Below w.heap.size w (wr.alloc (.cells #[sv yk, sv yv] 149)) := hbel.alloc hbel.size _
          have zA1 := bA1.size
          have sA1 := src_ref wr yk yv
          clear kA1
          go_wp2_with (at_builtin; refine hold_it ?_)
          refine let_go ?_
          refine wpList_append_src _ rfl _ _ 101 101 rfl w.heap.size 149 (.agg #[.string ⟨#[]⟩, .string ⟨#[]⟩]) 2 32 Try.underlying101 info_ref rfl (by decide) (.slice A7 O.length q7) _ _ rfl oA1 _ _ _ rfl sA1 (by unfold maxLen; omega) (by omega) zA1 ?_
          intro v1 w1 o1 g1 _
          have b1 := own_below oA1 bA1 g1 zA1
          clear oA1 bA1 zA1 sA1 g1
          have HO : Hid (OwnR w1 w.heap.size v1 (O ++ [(yk, yv)])) := by
            show World.ownsRow _ _ _ _ _ _ _
            simpa [encR] using o1
          clear o1
          go_wp2_with fail
          go_roundw
          case rel => exact ⟨j + 1, by omega, by go_num, by rw [HP.out]; exact HO.out, b1⟩
          case measure => simp [intOf]; omega
        | false =>
          have HO : Hid (OwnR wr w.heap.size (.slice A7 O.length q7) O) := hO
          clear hO
          go_wp2_with fail
          go_roundw
          case rel => exact ⟨j + 1, by omega, by go_num, by rw [HP.out]; simpa using HO.out, hbel⟩
          case measure => simp [intOf]; omega
      · have h' : ¬ (s.length : Int) ≤ (yk.length : Int) := by omega
        have h2 := not_prefix hpl
        rw [h2] at HP
        clear h2
        have HO : Hid (OwnR wr w.heap.size (.slice A7 O.length q7) O) := hO
        clear hO
        go_wp2_with fail
        go_roundw
        case rel => exact ⟨j + 1, by omega, by go_num, by rw [HP.out]; simpa using HO.out, hbel⟩
        case measure => simp [intOf]; omega
    · obtain rfl : j = n := by omega
      have H3 : Hid (T.take j = T) := by show _ = _; rw [List.take_of_length_le (by rw [HN.out]; exact Nat.le_refl _)]
      rw [H3.out] at hO
      have HO := Lib.hid hO
      clear hO
      go_wp2_with fail
      go_ret
      exact ⟨_, rfl, HO.out, Keeps.of_below hbel⟩

theorem keys_len (d : List Pr) : (keys d).length = d.length := by simp [keys]
theorem keys_take_snoc {d : List Pr} {j : Nat} {x : Pr} (h : d[j]? = some x) : keys (d.take (j + 1)) = keys (d.take j) ++ [x.1] := by
  obtain ⟨hj, e⟩ := List.getElem?_eq_some_iff.1 h
  rw [List.take_succ_eq_append_getElem hj, e, keys_snoc]

set_option maxHeartbeats 4000000 in
set_option maxRecDepth 100000 in
theorem listed_any (base : Nat) (v : Value) (d : List Pr) (w : World) (hd : d.length ≤ 1048576) (hP : OwnP w base v d) :
    Calls Try.prog 63 #[v] w (RetR w (keys d)) := by
  obtain ⟨Ap, cp, rfl, hcp1, hcp2, -⟩ := hP.form
  obtain ⟨n, hn⟩ : ∃ n, n = d.length := ⟨_, rfl⟩
  have HN := Lib.hid hn
  rw [← hn] at hP hcp1 hd ⊢
  clear hn
  go_enter Try.func63, Try.ntmps63
  go_wp2
  go_loopw [3, 8] (fun v i wr => ∃ j : Nat, j ≤ n ∧ i = .int .i64 j ∧ OwnR wr w.heap.size v (keys (d.take j)) ∧ Below w.heap.size w wr) (fun _ i _ => n - (intOf i).toNat)
  case atStart => exact ⟨0, Nat.zero_le _, rfl, OwnR.nil _ _, Below.refl _ _⟩
  case round =>
    obtain ⟨j, hj, rfl, hO, hbel⟩ := hrel
    have hOl : (keys (d.take j)).length ≤ j := by rw [keys_len]; simp; omega
    by_cases hlt : j < n
    · obtain ⟨x, hx⟩ : ∃ x, d[j]? = some x := ⟨_, List.getElem?_eq_getElem (by rw [← HN.out]; exact hlt)⟩
      have hPr := hP.keep (Keeps.of_below (S := Non) hbel) (fun _ _ q => q)
      have hcell : ∃ g, Ap = some ⟨g, 0, none⟩ ∧ wr.cell? ⟨g, j * 2, none⟩ = some (sv x.1.1) ∧ wr.cell? ⟨g, j * 2 + 1, none⟩ = some (.slice x.2.1 x.2.2.1 x.2.2.2) ∧ RdB wr x.2.1 x.2.2.1 x.1.2 := by
        obtain ⟨A', c', g, e1, e2, -, -, -, e3, e4⟩ := hPr.at_ hx
        injection e1 with e1
        exact ⟨g, by rw [e1, e2], e3, e4, (hPr.el x (List.mem_of_getElem? hx)).1⟩
      obtain ⟨g, rfl, q0, q1, hrd⟩ := hcell
      have HP := Lib.hid (keys_take_snoc hx)
      obtain ⟨⟨pk, pv⟩, Ax, nx, cx⟩ := x
      simp only [] at q0 q1 hrd HP
      obtain ⟨O, hO0⟩ : ∃ O, O = keys (d.take j) := ⟨_, rfl⟩
      rw [← hO0] at hO HP hOl
      clear hO0 hx hPr
      unfold OwnR at hO
      obtain ⟨A7, q7, rfl⟩ := own_slice hO
      have kA0 : Keeps Non wr (wr.alloc (.cells #[sv pk, .slice Ax nx cx] 114)) := (Keeps.refl _ _).alloc _
      have hrdA := hrd.keepN kA0
      have t3 := run_str (wr.alloc (.cells #[sv pk, .slice Ax nx cx] 114)) Ax nx cx pv hrdA
      have kA1 : Keeps Non wr ((wr.alloc (.cells #[sv pk, .slice Ax nx cx] 114)).alloc (.cells #[sv pk, sv pv] 149)) := kA0.alloc _
      have oA1 := own_kept hO kA1 (fun _ _ q => q)
      have bA0 : Below w.heap.size w (wr.alloc (.cells #[sv pk, .slice Ax nx cx] 114)) := hbel.alloc hbel.size _
      have bA1 : Below w.heap.size w ((wr.alloc (.cells #[sv pk, .slice Ax nx cx] 114)).alloc (.cells #[sv pk, sv pv] 149)) := bA0.alloc bA0.size _
      have zA1 := bA1.size
      have sA1 := src_ref (wr.alloc (.cells #[sv pk, .slice Ax nx cx] 114)) pk pv
      rw [show (wr.alloc (.cells #[sv pk, .slice Ax nx cx] 114)).heap.size = wr.heap.size + 1 from Array.size_push _] at sA1
      clear kA1 kA0 hrd hrdA bA0
      go_wp2_with (at_builtin; refine hold_it ?_)
      refine let_go ?_
      refine wpList_append_src _ rfl _ _ 101 101 rfl w.heap.size 149 (.agg #[.string ⟨#[]⟩, .string ⟨#[]⟩]) 2 32 Try.underlying101 info_ref rfl (by decide) (.slice A7 O.length q7) _ _ rfl oA1 _ _ _ rfl sA1 (by unfold maxLen; omega) (by omega) zA1 ?_
      intro v1 w1 o1 g1 _
      have b1 := own_below oA1 bA1 g1 zA1
      clear oA1 bA1 zA1 sA1 g1
      have HO : Hid (OwnR w1 w.heap.size v1 (O ++ [(pk, pv)])) := by
        show World.ownsRow _ _ _ _ _ _ _
        simpa [encR] using o1
      clear o1
      go_wp2_with fail
      go_roundw
      case rel => exact ⟨j + 1, by omega, by go_num, by rw [HP.out]; exact HO.out, b1⟩
      case measure => simp [intOf]; omega
    · obtain rfl : j = n := by omega
      have H3 : Hid (d.take j = d) := by show _ = _; rw [List.take_of_length_le (by rw [← HN.out]; exact Nat.le_refl _)]
      rw [H3.out] at hO
      have HO := Lib.hid hO
      clear hO
      go_wp2_with fail
      go_ret
      exact ⟨_, rfl, HO.out, Keeps.of_below hbel⟩
end Go.Proofs.Ytbmamhcjbhnkiaa
