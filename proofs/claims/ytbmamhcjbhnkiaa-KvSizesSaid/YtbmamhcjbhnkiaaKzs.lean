/- Layer 9: the walks of the reference's Same and Get, and of listed. -/
import Derived.Test.YtbmamhcjbhnkiaaKzr
import Derived.Laws.StructEq
namespace Go.Proofs.Ytbmamhcjbhnkiaa
open Go.RowKit Go.Maps
open Kv (Bs Tab)

theorem beq_dec (a b : Bs) : (a == b) = decide (a = b) := by
  by_cases h : a = b <;> simp [h]
theorem run_neq_ref (a b c d : Bs) (w : World) : (binOp .neq 149 (.agg #[sv a, sv b]) (.agg #[sv c, sv d])).run Try.prog w = .ok (.bool (!(decide (a = c) && decide (b = d)))) w := by
  have hb := Try.stoodInHeld149
  have hu := Try.underlying149
  have hs := Try.underlying9
  rw [run_neq_struct, run_equalIn_agg w 9999 149 _ _ (by kernel_rfl) hb]
  simp [Program.fieldsOf, hu, Op.eqFields, go_sem, hs, part, beq_dec]
  by_cases h1 : a = c
  · by_cases h2 : b = d <;> simp [h1, h2]
  · simp [h1]

theorem tab_ext {S T : Tab} (hl : S.length = T.length) (h : ∀ (j : Nat) (p q : Bs × Bs), S[j]? = some p → T[j]? = some q → p = q) : S = T := by
  apply List.ext_getElem? 
  intro j
  by_cases hj : j < S.length
  · have hj' : j < T.length := by omega
    rw [List.getElem?_eq_getElem hj, List.getElem?_eq_getElem hj', h j _ _ (List.getElem?_eq_getElem hj) (List.getElem?_eq_getElem hj')]
  · rw [List.getElem?_eq_none (by omega), List.getElem?_eq_none (by omega)]

set_option maxHeartbeats 4000000 in
set_option maxRecDepth 100000 in
theorem same9_any (Z Z' : Nat → Prop) (A B : Option Addr) (n m c c' : Nat) (S T : Tab) (w : World) (hS : RdR Z w A n S) (hT : RdR Z' w B m T) :
    Calls Try.prog 62 #[.slice A n c, .slice B m c'] w fun e w' => e = .returned (.bool (decide (S = T))) ∧ ∃ q, w.drewN q = w' := by
  have Hl := Lib.hid hS.len
  have Hk := Lib.hid hT.len
  have hn := hS.le
  have hm := hT.le
  by_cases hnm : n = m
  · subst hnm
    go_enter Try.func62, Try.ntmps62
    go_wp2
    go_loopw [5] (fun i wr => ∃ j : Nat, j ≤ n ∧ i = .int .i64 j ∧ (∃ q, w.drewN q = wr) ∧ ∀ (x : Nat) (p q : Bs × Bs), x < j → S[x]? = some p → T[x]? = some q → p = q) (fun i _ => n - (intOf i).toNat)
    case atStart => exact ⟨0, Nat.zero_le _, rfl, ⟨0, World.drewN_zero _⟩, fun x p q h => by omega⟩
    case round =>
      obtain ⟨j, hj, rfl, ⟨q, rfl⟩, hall⟩ := hrel
      have HA := Lib.hid hall
      clear hall
      have kq : Keeps Non w (w.drewN q) := (Keeps.refl _ _).drewN q
      by_cases hlt : j < n
      · obtain ⟨b, off, ⟨sk, sw⟩, rfl, hs, q0, q1⟩ := hS.at_ hlt
        obtain ⟨b', off', ⟨tk, tw⟩, rfl, ht, r0, r1⟩ := hT.at_ hlt
        simp only [] at q0 q1 r0 r1
        have hne := fun W => run_neq_ref sk sw tk tw W
        have hg := fun (op : BinOp) (x y : Operand) (W : World) => run_eqGuard_agg (P := Try.prog) W op 149 x y #[sv sk, sv sw] #[sv tk, sv tw] Try.eqGuardType149
        obtain ⟨eqb, heqb⟩ : ∃ eqb, eqb = (decide (sk = tk) && decide (sw = tw)) := ⟨_, rfl⟩
        rw [← heqb] at hne
        have Hs := Lib.hid hs
        have Ht := Lib.hid ht
        have HE := Lib.hid heqb
        clear hs ht heqb
        go_wp2_with fail
        go_region
        cases eqb with
        | true =>
          go_wp2_with fail
          go_round
          · exact ⟨j + 1, by omega, rfl, ⟨_, rfl⟩, fun x p q hx h1 h2 => by
              by_cases hxj : x < j
              · exact HA.out x p q hxj h1 h2
              · obtain rfl : x = j := by omega
                rw [Hs.out] at h1
                rw [Ht.out] at h2
                obtain ⟨e1, e2⟩ := (Bool.and_eq_true _ _).mp HE.out.symm
                rw [← Option.some.inj h1, ← Option.some.inj h2, of_decide_eq_true e1, of_decide_eq_true e2]⟩
          · show n - (intOf (.int .i64 ((j + 1 : Nat) : Int))).toNat < n - (intOf (.int .i64 (j : Int))).toNat
            simp only [intOf]
            omega
        | false =>
          have Hd : Hid (decide (S = T) = false) := by
            show _ = _
            rw [decide_eq_false_iff_not]
            intro e
            have he := HE.out
            rw [e] at Hs
            rw [Hs.out] at Ht
            obtain ⟨rfl, rfl⟩ := Prod.mk.inj (Option.some.inj Ht.out)
            simp at he
          go_wp2_with fail
          go_ret
          exact ⟨ret_bool Hd.out.symm, _, rfl⟩
      · obtain rfl : j = n := by omega
        have Hd : Hid (decide (S = T) = true) := by
          show _ = _
          rw [decide_eq_true_iff]
          exact tab_ext (by rw [Hl.out, Hk.out]) fun x p q h1 h2 => HA.out x p q (by have := (List.getElem?_eq_some_iff.1 h1).1; rw [Hl.out] at this; exact this) h1 h2
        go_wp2_with fail
        go_ret
        exact ⟨ret_bool Hd.out.symm, _, rfl⟩
  · have hne : ((n : Int) != (m : Int)) = true := by rw [bne_iff_ne]; omega
    have Hd : Hid (decide (S = T) = false) := by
      show _ = _
      rw [decide_eq_false_iff_not]
      exact fun e => hnm (by rw [← Hl.out, ← Hk.out, e])
    go_enter Try.func62, Try.ntmps62
    go_wp2_with fail
    go_ret
    exact ⟨ret_bool Hd.out.symm, 0, World.drewN_zero _⟩

theorem get_at {k : Bs} : ∀ {T : Tab} {j : Nat} {p : Bs × Bs}, T[j]? = some p → p.1 = k → (∀ (x : Nat) (q : Bs × Bs), x < j → T[x]? = some q → ¬ q.1 = k) → Kv.get T k = some p.2
  | [], j, p, h, _, _ => by simp at h
  | y :: r, 0, p, h, hk, _ => by
    obtain rfl : y = p := by simpa using h
    simp [Kv.get, hk]
  | y :: r, j + 1, p, h, hk, hn => by
    have h0 : ¬ y.1 = k := hn 0 y (by omega) (by simp)
    have := get_at (T := r) (j := j) (p := p) (by simpa using h) hk (fun x q hx hq => hn (x + 1) q (by omega) (by simpa using hq))
    simp only [Kv.get, List.find?_cons, h0, decide_false] at this ⊢
    exact this
theorem get_not {k : Bs} {T : Tab} (h : ∀ (x : Nat) (q : Bs × Bs), x < T.length → T[x]? = some q → ¬ q.1 = k) : Kv.get T k = none :=
  Kv.get_none.2 fun p hp => by
    obtain ⟨x, hx⟩ := List.mem_iff_getElem?.1 hp
    exact h x p (List.getElem?_eq_some_iff.1 hx).1 hx
/-- What the reference's Get answers. -/
def RetG (w : World) (T : Tab) (k : Bs) (e : Ending) (w' : World) : Prop := e = .returned (.tuple #[sv ((Kv.get T k).getD []), .bool (Kv.get T k).isSome]) ∧ ∃ q, w.drewN q = w'

set_option maxHeartbeats 4000000 in
set_option maxRecDepth 100000 in
theorem rget_any (Z : Nat → Prop) (A : Option Addr) (n c : Nat) (T : Tab) (k : Bs) (w : World) (hT : RdR Z w A n T) :
    Calls Try.prog 67 #[.slice A n c, sv k] w (RetG w T k) := by
  have Hl := Lib.hid hT.len
  have hn := hT.le
  go_enter Try.func67, Try.ntmps67
  go_wp2
  go_loopw [6] (fun i wr => ∃ j : Nat, j ≤ n ∧ i = .int .i64 j ∧ (∃ q, w.drewN q = wr) ∧ ∀ (x : Nat) (q : Bs × Bs), x < j → T[x]? = some q → ¬ q.1 = k) (fun i _ => n - (intOf i).toNat)
  case atStart => exact ⟨0, Nat.zero_le _, rfl, ⟨0, World.drewN_zero _⟩, fun x q h => by omega⟩
  case round =>
    obtain ⟨j, hj, rfl, ⟨q, rfl⟩, hall⟩ := hrel
    have HA := Lib.hid hall
    clear hall
    by_cases hlt : j < n
    · obtain ⟨b, off, ⟨yk, yv⟩, rfl, hs, q0, q1⟩ := hT.at_ hlt
      simp only [] at q0 q1
      have Hs := Lib.hid hs
      clear hs
      by_cases hk : yk = k
      · subst hk
        have HG : Hid (Kv.get T yk = some yv) := get_at Hs.out rfl HA.out
        have e2 := eq_yes (rfl : yk = yk)
        go_wp2_with fail
        go_ret2
        refine ⟨?_, _, rfl⟩
        rw [HG.out]
        rfl
      · have e2 := eq_no hk
        have HK := Lib.hid hk
        clear hk
        go_wp2_with fail
        go_roundw
        case rel => exact ⟨j + 1, by omega, by go_num, ⟨_, rfl⟩, fun x p hx h1 => by
            by_cases hxj : x < j
            · exact HA.out x p hxj h1
            · obtain rfl : x = j := by omega
              rw [Hs.out] at h1
              rw [← Option.some.inj h1]
              exact HK.out⟩
        case measure => simp [intOf]; omega
    · obtain rfl : j = n := by omega
      have HG : Hid (Kv.get T k = none) := get_not fun x q hx => HA.out x q (by rw [Hl.out] at hx; exact hx)
      go_wp2_with fail
      go_ret2
      refine ⟨?_, _, rfl⟩
      rw [HG.out]
      rfl
end Go.Proofs.Ytbmamhcjbhnkiaa

/- Layer 9: the walks of the reference's Scan, and of listed. -/
namespace Go.Proofs.Ytbmamhcjbhnkiaa
open Go.RowKit Go.Maps
open Kv (Bs Tab)

theorem pre_take_snoc (s : Bs) {T : Tab} {j : Nat} {p : Bs × Bs} (h : T[j]? = some p) : Kv.pre s (T.take (j + 1)) = Kv.pre s (T.take j) ++ (if s.isPrefixOf p.1 then [p] else []) := by
  obtain ⟨hj, e⟩ := List.getElem?_eq_some_iff.1 h
  rw [List.take_succ_eq_append_getElem hj, e]
  exact pre_snoc s _ p
theorem pre_take_len (s : Bs) (T : Tab) (j : Nat) : (Kv.pre s (T.take j)).length ≤ j := Nat.le_trans (List.length_filter_le _ _) (by simp; omega)

set_option maxHeartbeats 4000000 in
set_option maxRecDepth 100000 in
theorem rscan_any (Z : Nat → Prop) (A : Option Addr) (n c : Nat) (T : Tab) (s : Bs) (w : World) (hr : RdR Z w A n T) :
    Calls Try.prog 65 #[.slice A n c, sv s] w (RetR w (Kv.pre s T)) := by
  have HN := Lib.hid hr.len
  have hnb := hr.le
  go_enter Try.func65, Try.ntmps65
  go_wp2
  go_loopw [5, 6] (fun v i wr => ∃ j : Nat, j ≤ n ∧ i = .int .i64 j ∧ OwnR wr w.heap.size v (Kv.pre s (T.take j)) ∧ Below w.heap.size w wr) (fun _ i _ => n - (intOf i).toNat)
  case atStart => exact ⟨0, Nat.zero_le _, rfl, OwnR.nil _ _, Below.refl _ _⟩
  case round =>
    obtain ⟨j, hj, rfl, hO, hbel⟩ := hrel
    have hOl := pre_take_len s T j
    by_cases hlt : j < n
    · obtain ⟨b, off, ⟨yk, yv⟩, rfl, hy, q0, q1⟩ := (hr.below hbel).at_ hlt
      simp only [] at q0 q1
      have HP := Lib.hid (pre_take_snoc s hy)
      simp only [] at HP
      clear hy
      obtain ⟨O, hO0⟩ : ∃ O, O = Kv.pre s (T.take j) := ⟨_, rfl⟩
      rw [← hO0] at hO HP hOl
      clear hO0
      unfold OwnR at hO
      obtain ⟨A7, q7, rfl⟩ := own_slice hO
      by_cases hpl : s.length ≤ yk.length
      · have ek := take_prefix yk s
        have et := ext_take yk s.length
        obtain ⟨ok, hok⟩ : ∃ ok, ok = s.isPrefixOf yk := ⟨_, rfl⟩
        rw [← hok] at HP ek
        clear hok
        cases ok with
        | true =>
          have kA1 : Keeps Non wr (wr.alloc (.cells #[sv yk, sv yv] 149)) := (Keeps.refl _ _).alloc _
          have oA1 := own_kept hO kA1 (fun _ _ q => q)
          have bA1 : Below w.heap.size w (wr.alloc (.cells #[sv yk, sv yv] 149)) := hbel.alloc hbel.size _
          have zA1 := bA1.size
          have sA1 := src_ref wr yk yv
          clear kA1
          go_wp2_with (at_builtin; refine hold_it ?_)
          refine let_go ?_
          refine wpList_append_src _ rfl _ _ 101 101 rfl w.heap.size 149 (.agg #[.string ⟨#[]⟩, .string ⟨#[]⟩]) 2 32 Try.underlying101 info_ref rfl (by decide) (.slice A7 O.length q7) _ _ rfl oA1 _ _ _ rfl sA1 (by unfold maxLen; omega) (by omega) zA1 ?_
          intro v1 w1 o1 g1 _
          have b1 := own_below oA1 bA1 g1 zA1
          clear oA1 bA1 zA1 sA1 g1
          have HO : Hid (OwnR w1 w.heap.size v1 (O ++ [(yk, yv)])) := by
            show World.ownsRow _ _ _ _ _ _ _
            simpa [encR] using o1
          clear o1
          go_wp2_with fail
          go_roundw
          case rel => exact ⟨j + 1, by omega, by go_num, by rw [HP.out]; exact HO.out, b1⟩
          case measure => simp [intOf]; omega
        | false =>
          have HO : Hid (OwnR wr w.heap.size (.slice A7 O.length q7) O) := hO
          clear hO
          go_wp2_with fail
          go_roundw
          case rel => exact ⟨j + 1, by omega, by go_num, by rw [HP.out]; simpa using HO.out, hbel⟩
          case measure => simp [intOf]; omega
      · have h' : ¬ (s.length : Int) ≤ (yk.length : Int) := by omega
        have h2 := not_prefix hpl
        rw [h2] at HP
        clear h2
        have HO : Hid (OwnR wr w.heap.size (.slice A7 O.length q7) O) := hO
        clear hO
        go_wp2_with fail
        go_roundw
        case rel => exact ⟨j + 1, by omega, by go_num, by rw [HP.out]; simpa using HO.out, hbel⟩
        case measure => simp [intOf]; omega
    · obtain rfl : j = n := by omega
      have H3 : Hid (T.take j = T) := by show _ = _; rw [List.take_of_length_le (by rw [HN.out]; exact Nat.le_refl _)]
      rw [H3.out] at hO
      have HO := Lib.hid hO
      clear hO
      go_wp2_with fail
      go_ret
      exact ⟨_, rfl, HO.out, Keeps.of_below hbel⟩

theorem keys_len (d : List Pr) : (keys d).length = d.length := by simp [keys]
theorem keys_take_snoc {d : List Pr} {j : Nat} {x : Pr} (h : d[j]? = some x) : keys (d.take (j + 1)) = keys (d.take j) ++ [x.1] := by
  obtain ⟨hj, e⟩ := List.getElem?_eq_some_iff.1 h
  rw [List.take_succ_eq_append_getElem hj, e, keys_snoc]

set_option maxHeartbeats 4000000 in
set_option maxRecDepth 100000 in
theorem listed_any (base : Nat) (v : Value) (d : List Pr) (w : World) (hd : d.length ≤ 1048576) (hP : OwnP w base v d) :
    Calls Try.prog 63 #[v] w (RetR w (keys d)) := by
  obtain ⟨Ap, cp, rfl, hcp1, hcp2, -⟩ := hP.form
  obtain ⟨n, hn⟩ : ∃ n, n = d.length := ⟨_, rfl⟩
  have HN := Lib.hid hn
  rw [← hn] at hP hcp1 hd ⊢
  clear hn
  go_enter Try.func63, Try.ntmps63
  go_wp2
  go_loopw [3, 8] (fun v i wr => ∃ j : Nat, j ≤ n ∧ i = .int .i64 j ∧ OwnR wr w.heap.size v (keys (d.take j)) ∧ Below w.heap.size w wr) (fun _ i _ => n - (intOf i).toNat)
  case atStart => exact ⟨0, Nat.zero_le _, rfl, OwnR.nil _ _, Below.refl _ _⟩
  case round =>
    obtain ⟨j, hj, rfl, hO, hbel⟩ := hrel
    have hOl : (keys (d.take j)).length ≤ j := by rw [keys_len]; simp; omega
    by_cases hlt : j < n
    · obtain ⟨x, hx⟩ : ∃ x, d[j]? = some x := ⟨_, List.getElem?_eq_getElem (by rw [← HN.out]; exact hlt)⟩
      have hPr := hP.keep (Keeps.of_below (S := Non) hbel) (fun _ _ q => q)
      have hcell : ∃ g, Ap = some ⟨g, 0, none⟩ ∧ wr.cell? ⟨g, j * 2, none⟩ = some (sv x.1.1) ∧ wr.cell? ⟨g, j * 2 + 1, none⟩ = some (.slice x.2.1 x.2.2.1 x.2.2.2) ∧ RdB wr x.2.1 x.2.2.1 x.1.2 := by
        obtain ⟨A', c', g, e1, e2, -, -, -, e3, e4⟩ := hPr.at_ hx
        injection e1 with e1
        exact ⟨g, by rw [e1, e2], e3, e4, (hPr.el x (List.mem_of_getElem? hx)).1⟩
      obtain ⟨g, rfl, q0, q1, hrd⟩ := hcell
      have HP := Lib.hid (keys_take_snoc hx)
      obtain ⟨⟨pk, pv⟩, Ax, nx, cx⟩ := x
      simp only [] at q0 q1 hrd HP
      obtain ⟨O, hO0⟩ : ∃ O, O = keys (d.take j) := ⟨_, rfl⟩
      rw [← hO0] at hO HP hOl
      clear hO0 hx hPr
      unfold OwnR at hO
      obtain ⟨A7, q7, rfl⟩ := own_slice hO
      have kA0 : Keeps Non wr (wr.alloc (.cells #[sv pk, .slice Ax nx cx] 114)) := (Keeps.refl _ _).alloc _
      have hrdA := hrd.keepN kA0
      have t3 := run_str (wr.alloc (.cells #[sv pk, .slice Ax nx cx] 114)) Ax nx cx pv hrdA
      have kA1 : Keeps Non wr ((wr.alloc (.cells #[sv pk, .slice Ax nx cx] 114)).alloc (.cells #[sv pk, sv pv] 149)) := kA0.alloc _
      have oA1 := own_kept hO kA1 (fun _ _ q => q)
      have bA0 : Below w.heap.size w (wr.alloc (.cells #[sv pk, .slice Ax nx cx] 114)) := hbel.alloc hbel.size _
      have bA1 : Below w.heap.size w ((wr.alloc (.cells #[sv pk, .slice Ax nx cx] 114)).alloc (.cells #[sv pk, sv pv] 149)) := bA0.alloc bA0.size _
      have zA1 := bA1.size
      have sA1 := src_ref (wr.alloc (.cells #[sv pk, .slice Ax nx cx] 114)) pk pv
      rw [show (wr.alloc (.cells #[sv pk, .slice Ax nx cx] 114)).heap.size = wr.heap.size + 1 from Array.size_push _] at sA1
      clear kA1 kA0 hrd hrdA bA0
      go_wp2_with (at_builtin; refine hold_it ?_)
      refine let_go ?_
      refine wpList_append_src _ rfl _ _ 101 101 rfl w.heap.size 149 (.agg #[.string ⟨#[]⟩, .string ⟨#[]⟩]) 2 32 Try.underlying101 info_ref rfl (by decide) (.slice A7 O.length q7) _ _ rfl oA1 _ _ _ rfl sA1 (by unfold maxLen; omega) (by omega) zA1 ?_
      intro v1 w1 o1 g1 _
      have b1 := own_below oA1 bA1 g1 zA1
      clear oA1 bA1 zA1 sA1 g1
      have HO : Hid (OwnR w1 w.heap.size v1 (O ++ [(pk, pv)])) := by
        show World.ownsRow _ _ _ _ _ _ _
        simpa [encR] using o1
      clear o1
      go_wp2_with fail
      go_roundw
      case rel => exact ⟨j + 1, by omega, by go_num, by rw [HP.out]; exact HO.out, b1⟩
      case measure => simp [intOf]; omega
    · obtain rfl : j = n := by omega
      have H3 : Hid (d.take j = d) := by show _ = _; rw [List.take_of_length_le (by rw [← HN.out]; exact Nat.le_refl _)]
      rw [H3.out] at hO
      have HO := Lib.hid hO
      clear hO
      go_wp2_with fail
      go_ret
      exact ⟨_, rfl, HO.out, Keeps.of_below hbel⟩
end Go.Proofs.Ytbmamhcjbhnkiaa
