/- Layer 9: the walk of the law KvSizes. -/
import Derived.Test.YtbmamhcjbhnkiaaKzv
import Derived.Deep.RegionWith
namespace Go.Proofs.Ytbmamhcjbhnkiaa
open Go.RowKit Go.Maps
open Kv (Bs Tab)

theorem zeros_len (n : Nat) : (zeros n).length = n := by simp [zeros]
theorem zeros_rdB {w : World} {b n : Nat} {e : TypeId} {fr : Nat × Nat} (hn : n ≤ 140737488355328) (h : w.heap[b]? = some (.cells ((zeros n).map bv).toArray e fr)) : RdB w (some ⟨b, 0, none⟩) n (zeros n) :=
  RdB.of_whole (l := zeros n) h rfl (zeros_len n) hn
/-- The three worlds in which a key of zeros is made a string. -/
theorem keys_conv (kl vl : Nat) (hk : kl ≤ 140737488355328) (w : World) (e1 e2 : TypeId) :
    (convert 22 9 (.slice (some ⟨w.heap.size, 0, none⟩) kl kl)).run Try.prog (w.alloc (.cells ((zeros kl).map bv).toArray e1)).drew = .ok (.string ⟨(zeros kl).toArray⟩) (w.alloc (.cells ((zeros kl).map bv).toArray e1)).drew ∧
    (convert 22 9 (.slice (some ⟨w.heap.size, 0, none⟩) kl kl)).run Try.prog ((w.alloc (.cells ((zeros kl).map bv).toArray e1)).alloc (.cells ((zeros vl).map bv).toArray e2)).drew = .ok (.string ⟨(zeros kl).toArray⟩) ((w.alloc (.cells ((zeros kl).map bv).toArray e1)).alloc (.cells ((zeros vl).map bv).toArray e2)).drew ∧
    (convert 22 9 (.slice (some ⟨w.heap.size + 1, 0, none⟩) kl kl)).run Try.prog ((w.alloc (.cells ((zeros vl).map bv).toArray e2)).alloc (.cells ((zeros kl).map bv).toArray e1)).drew = .ok (.string ⟨(zeros kl).toArray⟩) ((w.alloc (.cells ((zeros vl).map bv).toArray e2)).alloc (.cells ((zeros kl).map bv).toArray e1)).drew := by
  have h1 : (w.alloc (.cells ((zeros kl).map bv).toArray e1)).heap[w.heap.size]? = _ := heap_new w _
  have k2 : Keeps Non (w.alloc (.cells ((zeros kl).map bv).toArray e1)) ((w.alloc (.cells ((zeros kl).map bv).toArray e1)).alloc (.cells ((zeros vl).map bv).toArray e2)) := (Keeps.refl _ _).alloc _
  have h3 := heap_new (w.alloc (.cells ((zeros vl).map bv).toArray e2)) (.cells ((zeros kl).map bv).toArray e1)
  rw [show (w.alloc (.cells ((zeros vl).map bv).toArray e2)).heap.size = w.heap.size + 1 from Array.size_push _] at h3
  exact ⟨run_str _ _ _ _ _ (zeros_rdB hk (show (World.drew _).heap[_]? = _ from h1)), run_str _ _ _ _ _ (zeros_rdB hk (show (World.drew _).heap[_]? = _ from k2.at_ h1 id)), run_str _ _ _ _ _ (zeros_rdB hk (show (World.drew _).heap[_]? = _ from h3))⟩
/-- So many of one step. -/
def many (n : Nat) (P : Kv.St) : List Kv.St := List.replicate n P
theorem many_succ (n : Nat) (P : Kv.St) : many (n + 1) P = many n P ++ [P] := by simp [many, List.replicate_succ']
theorem many_len (n : Nat) (P : Kv.St) : (many n P).length = n := by simp [many]
theorem many_enc (n : Nat) (P : Kv.St) : (Kv.encAll (many n P)).length = n * (Kv.enc P).length := by
  induction n with
  | zero => simp [many, Kv.encAll]
  | succ n ih => rw [many_succ, Kv.encAll_snoc, List.length_append, ih, Nat.succ_mul]
theorem many_do (k x : Bs) (n : Nat) : Kv.doAll [] (many (n + 1) ⟨false, k, x⟩) = [(k, x)] := by
  induction n with
  | zero => rfl
  | succ n ih =>
    rw [many_succ, Kv.doAll_snoc, ih]
    simp [Kv.do1, Kv.put, Kv.del, Kv.ins]

abbrev Wkv (w : World) (kl vl : Nat) : World := ((w.alloc (.cells ((zeros kl).map bv).toArray 5)).alloc (.cells ((zeros vl).map bv).toArray 5)).drew
theorem vals_kv (kl vl : Nat) (hv : vl ≤ 140737488355328) (w : World) : RdB (Wkv w kl vl) (some ⟨w.heap.size + 1, 0, none⟩) vl (zeros vl) ∧ Keeps Non w (Wkv w kl vl) ∧ RdB (Wkv w vl kl) (some ⟨w.heap.size, 0, none⟩) vl (zeros vl) ∧ Keeps Non w (Wkv w vl kl) := by
  have kA : ∀ a b, Keeps Non w (Wkv w a b) := fun a b => (((Keeps.refl _ _).alloc _).alloc _).drew
  have h1 : (w.alloc (.cells ((zeros vl).map bv).toArray 5)).heap[w.heap.size]? = _ := heap_new w _
  have k2 : Keeps Non (w.alloc (.cells ((zeros vl).map bv).toArray 5)) (Wkv w vl kl) := ((Keeps.refl _ _).alloc _).drew
  have h3 := heap_new (w.alloc (.cells ((zeros kl).map bv).toArray 5)) (.cells ((zeros vl).map bv).toArray 5)
  rw [show (w.alloc (.cells ((zeros kl).map bv).toArray 5)).heap.size = w.heap.size + 1 from Array.size_push _] at h3
  exact ⟨zeros_rdB hv (show (World.drew _).heap[_]? = _ from h3), kA _ _, zeros_rdB hv (k2.at_ h1 id), kA _ _⟩

set_option maxHeartbeats 8000000 in
set_option maxRecDepth 100000 in
theorem kvSizes_walk (a0 a1 a2 : Int) (w : World) (w0 : (Lit.int .i64 a0).wf = true) (w1 : (Lit.int .i64 a1).wf = true) (w2 : (Lit.int .i64 a2).wf = true) :
    Calls Try.prog 19 #[.int .i64 a0, .int .i64 a1, .int .i64 a2] w fun e w' => e = .returned (.bool true) ∧ Below w.heap.size w w' := by
  by_cases hout : a0 < 0 ∨ 200 < a0 ∨ a1 < 0 ∨ 5000 < a1 ∨ a2 < 0 ∨ 80 < a2
  · have hcases : a0 < 0 ∨ (¬ a0 < 0 ∧ 200 < a0) ∨ (¬ a0 < 0 ∧ ¬ 200 < a0 ∧ a1 < 0) ∨ (¬ a0 < 0 ∧ ¬ 200 < a0 ∧ ¬ a1 < 0 ∧ 5000 < a1) ∨ (¬ a0 < 0 ∧ ¬ 200 < a0 ∧ ¬ a1 < 0 ∧ ¬ 5000 < a1 ∧ a2 < 0) ∨ (¬ a0 < 0 ∧ ¬ 200 < a0 ∧ ¬ a1 < 0 ∧ ¬ 5000 < a1 ∧ ¬ a2 < 0 ∧ 80 < a2) := by omega
    clear hout
    rcases hcases with q1 | ⟨q1, q2⟩ | ⟨q1, q2, q3⟩ | ⟨q1, q2, q3, q4⟩ | ⟨q1, q2, q3, q4, q5⟩ | ⟨q1, q2, q3, q4, q5, q6⟩
    all_goals
      go_enter Try.func19, Try.ntmps19
      go_wp2_with fail
      refine (anchor9_any _).mono ?_
      rintro e w3 ⟨rfl, hk1⟩
      go_wp2_with fail
      go_ret
      exact ⟨rfl, hk1.none_below⟩
  · obtain ⟨kl, rfl⟩ : ∃ kl : Nat, a0 = (kl : Int) := ⟨a0.toNat, by omega⟩
    obtain ⟨vl, rfl⟩ : ∃ vl : Nat, a1 = (vl : Int) := ⟨a1.toNat, by omega⟩
    obtain ⟨st, rfl⟩ : ∃ st : Nat, a2 = (st : Int) := ⟨a2.toNat, by omega⟩
    have h1 : kl ≤ 200 := by omega
    have h2 : vl ≤ 5000 := by omega
    have h3 : st ≤ 80 := by omega
    clear hout w0 w1 w2
    go_enter Try.func19, Try.ntmps19
    go_wp2_with fail
    refine (anchor9_any _).mono ?_
    rintro e w2 ⟨rfl, hk02⟩
    go_wp2_with fail
    refine (new_ex 65536 (by omega) (by omega) w2).mono ?_
    rintro e w3 ⟨p, g, rfl, hD3, hp, hg, hk3⟩
    go_wp2_with fail
    refine (kopen_fresh p g 65536 (by omega) (by omega) w3 hD3).mono ?_
    rintro e w4 ⟨d, F, s, b, m, rfl, hL, ⟨hlit, hdl⟩, hS, hF, hs, hm, hk4⟩
    have hs2 := hk02.size
    have hs3 := hk3.size
    have hk04 : Keeps Non w w4 := (hk02.trans hk3).into hk4 fun k h1 h2 => by show False; omega
    have hz : Wal.hs d = 32768 := by unfold Wal.hs; rw [hdl]
    have HZ : Hid (∀ k, Zs p g F s k → w.heap.size ≤ k) := fun k q => by
      rcases q with q | q | q | q
      · omega
      · omega
      · have := hF k q; omega
      · omega
    have hml := hS.tab.lt
    clear hk02 hk3 hk4 hD3
    have Hb := Lib.hid (begin_any (Zs p g F s) s b m 0 [] w4 hS.st hS.tab hS.lt)
    go_wp2_with fail
    refine Hb.out.mono ?_
    rintro e w5 ⟨c, mc, rfl, hc, h1', h2', hk5⟩
    have hE5 := Ses.began hS hml hc h1' h2' hk5
    have hk05 := hk04.trans hk5
    have HBw := Lib.hid hk04.size
    obtain ⟨B, hB⟩ : ∃ B, B = w4.heap.size := ⟨_, rfl⟩
    rw [← hB] at hE5 HBw
    clear Hb hS hml hc h1' h2' hk5 hk04 hB hs hm hF
    have Hk05 := Lib.hid hk05
    have HE5 := Lib.hid hE5
    clear hk05 hE5
    by_cases hbad : kl < 1 ∨ 128 < kl ∨ 4096 < vl
    -- BAD<
    · have hcases : kl < 1 ∨ (¬ kl < 1 ∧ 128 < kl) ∨ (¬ kl < 1 ∧ ¬ 128 < kl ∧ 4096 < vl) := by omega
      have Hbad := Lib.hid hbad
      clear hbad
      rcases hcases with q1 | ⟨q1, q2⟩ | ⟨q1, q2, q3⟩
      all_goals
        go_wp2
        go_loopw [12, 13, 54] (fun n y i wr => n = .int .i64 0 ∧ y = .int .i64 0 ∧ ∃ j : Nat, j ≤ st ∧ i = .int .i64 j ∧ Keeps Non w5 wr) (fun _ _ i _ => st - (intOf i).toNat)
        case atStart => exact ⟨rfl, rfl, 0, Nat.zero_le _, rfl, Keeps.refl _ _⟩
        case round =>
          obtain ⟨rfl, rfl, j, hj, rfl, hk⟩ := hrel
          by_cases hlt : j < st
          · have HPut : Hid (∀ (W : World) (b n cc : Nat), Keeps Non wr W → RdB W (some ⟨b, 0, none⟩) n (zeros n) → n = vl → Calls Try.prog 58 #[.pointer (some ⟨c, 0, none⟩), sv (zeros kl), .slice (some ⟨b, 0, none⟩) n cc] W fun e w' => e = .returned (.int .i64 11) ∧ Keeps Non wr w') := fun W b n cc hW hr hn => by
              have he : addErr (zeros kl).length n ([] : List Kv.St).length = 11 := by
                unfold addErr; rw [zeros_len, if_pos (by rw [hn]; exact Hbad.out)]
              refine (put_no (zeros kl) (zeros n) (some ⟨b, 0, none⟩) n cc ((HE5.out.ch.keepN hk).keepN hW) (by rw [he]; decide) hr).mono ?_
              rintro e w' ⟨rfl, hk'⟩
              rw [he]
              exact ⟨rfl, hW.trans hk'⟩
            have hmk := make_zeros kl (by omega)
            have hmv := make_zeros vl (by omega)
            obtain ⟨cv1, cv2, cv3⟩ := keys_conv kl vl (by omega) wr 5 5
            obtain ⟨r1, k1, r2, k2⟩ := vals_kv kl vl (by omega) wr
            have P1 := HPut.out (Wkv wr kl vl) (wr.heap.size + 1) vl vl k1 r1 rfl
            have P2 := HPut.out (Wkv wr vl kl) wr.heap.size vl vl k2 r2 rfl
            unfold Wkv at P1 P2
            obtain ⟨K, hK⟩ : ∃ K, K = Obj.cells ((zeros kl).map bv).toArray 5 := ⟨_, rfl⟩
            obtain ⟨V, hV⟩ : ∃ V, V = Obj.cells ((zeros vl).map bv).toArray 5 := ⟨_, rfl⟩
            obtain ⟨ks, hks⟩ : ∃ ks, ks = (⟨(zeros kl).toArray⟩ : ByteArray) := ⟨_, rfl⟩
            unfold sv at P1 P2
            simp only [← hK, ← hV, ← hks] at P1 P2 hmk hmv cv1 cv2 cv3
            have P1 := Lib.hid P1
            have P2 := Lib.hid P2
            have HkO := Lib.hid hk
            clear r1 k1 r2 k2 HPut hk hK hV hks
            go_wp2_with fail
            go_region_with (go_at_call 58; (first | (with_reducible refine P1.out.mono ?_) | (with_reducible refine P2.out.mono ?_)); rintro e w7 ⟨rfl, k7⟩)
            all_goals
              go_wp2_with fail
              go_roundw
              case rel => exact ⟨rfl, rfl, j + 1, by omega, by go_num, HkO.out.trans k7⟩
              case measure => simp [intOf]; omega
          · obtain rfl : j = st := by omega
            have hE := HE5.out.keepN hk
            have Hc := Lib.hid (commit_fresh hE (by decide) hL Kv.Says.nil hlit rfl (by simp) (by decide) (by rw [hz]; decide) (by rw [hz]; decide))
            have hlc := hE.lc
            have Hk := Lib.hid (Hk05.out.trans hk)
            clear hE hk
            go_wp2_with fail
            refine Hc.out.mono ?_
            rintro e w6 ⟨rfl, F6, m6, age6, d6, L6, hS6, -, -, -, -, -, -, k6⟩
            have hk6 : Keeps Non w w6 := Hk.out.into k6 fun k q1 q2 => by
              have := HBw.out
              show False
              rcases q2 with q | q
              · omega
              · have := HZ.out k q; omega
            have Hl := Lib.hid (slen_any (Zs p g F6 s) s b m6 age6 _ w6 hS6.st hS6.tab)
            clear Hc k6 hS6
            go_wp2_with fail
            refine Hl.out.mono ?_
            rintro e w' ⟨rfl, rfl⟩
            go_wp2_with fail
            go_ret
            exact ⟨rfl, hk6.none_below⟩
    -- >BAD
    · have g1 : ¬ kl < 1 := by omega
      have g2 : ¬ 128 < kl := by omega
      have g3 : ¬ 4096 < vl := by omega
      clear hbad
      obtain ⟨P, hP⟩ : ∃ P : Kv.St, P = ⟨false, zeros kl, zeros vl⟩ := ⟨_, rfl⟩
      have HP := Lib.hid hP
      obtain ⟨q0, hq0⟩ : ∃ q0, q0 = 4 + kl + vl := ⟨_, rfl⟩
      have HQ := Lib.hid hq0
      have hqb : q0 ≤ 4228 := by omega
      have Henc : Hid ((Kv.enc P).length = q0) := by
        show _ = _
        rw [hP, Kv.enc_length, hq0]
        simp [zeros_len]
        omega
      clear hP hq0
      go_wp2
      go_loopw [12, 13, 54] (fun a y i wr => ∃ (j n v' : Nat) (v : Value), j ≤ st ∧ n ≤ 64 ∧ (n = 64 ∨ n = j) ∧ a = .int .i64 n ∧ y = .int .i64 v' ∧ i = .int .i64 j ∧ Hid (v' = n * q0) ∧ v' ≤ 270592 ∧ Ses wr B F s b p g m 0 d L0 [] c mc v (many n P) (Kv.doAll [] (many n P)) false ∧ Keeps Non w wr) (fun _ _ i _ => st - (intOf i).toNat)
      case atStart => exact ⟨0, 0, 0, _, Nat.zero_le _, by omega, .inr rfl, rfl, rfl, rfl, by show 0 = 0 * q0; omega, by omega, HE5.out, Hk05.out⟩
      case round =>
        obtain ⟨j, n, y, v, hj, hn, hnj, rfl, rfl, rfl, Hy, hyb, hE, hk⟩ := hrel
        by_cases hlt : j < st
        · by_cases hn64 : n = 64
          · subst hn64
            have HPut : Hid (∀ (W : World) (b n cc : Nat), Keeps Non wr W → RdB W (some ⟨b, 0, none⟩) n (zeros n) → n = vl → Calls Try.prog 58 #[.pointer (some ⟨c, 0, none⟩), sv (zeros kl), .slice (some ⟨b, 0, none⟩) n cc] W fun e w' => e = .returned (.int .i64 14) ∧ Keeps Non wr w') := fun W b n cc hW hr hn => by
              have he : addErr (zeros kl).length n (many 64 P).length = 14 := by
                unfold addErr; rw [zeros_len, many_len, if_neg (by omega)]; rfl
              refine (put_no (zeros kl) (zeros n) (some ⟨b, 0, none⟩) n cc ((hE.ch).keepN hW) (by rw [he]; decide) hr).mono ?_
              rintro e w' ⟨rfl, hk'⟩
              rw [he]
              exact ⟨rfl, hW.trans hk'⟩
            have hmk := make_zeros kl (by omega)
            have hmv := make_zeros vl (by omega)
            obtain ⟨cv1, cv2, cv3⟩ := keys_conv kl vl (by omega) wr 5 5
            obtain ⟨r1, k1, r2, k2⟩ := vals_kv kl vl (by omega) wr
            have P1 := HPut.out (Wkv wr kl vl) (wr.heap.size + 1) vl vl k1 r1 rfl
            have P2 := HPut.out (Wkv wr vl kl) wr.heap.size vl vl k2 r2 rfl
            unfold Wkv at P1 P2
            obtain ⟨K, hK⟩ : ∃ K, K = Obj.cells ((zeros kl).map bv).toArray 5 := ⟨_, rfl⟩
            obtain ⟨V, hV⟩ : ∃ V, V = Obj.cells ((zeros vl).map bv).toArray 5 := ⟨_, rfl⟩
            obtain ⟨ks, hks⟩ : ∃ ks, ks = (⟨(zeros kl).toArray⟩ : ByteArray) := ⟨_, rfl⟩
            unfold sv at P1 P2
            simp only [← hK, ← hV, ← hks] at P1 P2 hmk hmv cv1 cv2 cv3
            have P1 := Lib.hid P1
            have P2 := Lib.hid P2
            have HkO := Lib.hid hk
            have HEO := Lib.hid hE
            clear r1 k1 r2 k2 HPut hk hK hV hks hE
            go_wp2_with fail
            go_region_with (go_at_call 58; (first | (with_reducible refine P1.out.mono ?_) | (with_reducible refine P2.out.mono ?_)); rintro e w7 ⟨rfl, k7⟩)
            all_goals
              go_wp2_with fail
              go_roundw
              case rel => exact ⟨j + 1, 64, y, v, by omega, by omega, .inl rfl, by go_num, rfl, by go_num, Hy, by omega, HEO.out.keepN k7, HkO.out.trans k7⟩
              case measure => simp [intOf]; omega
          · have hnb : (n : Int) ≠ 64 := by omega
            have hTl : (Kv.doAll [] (many n P)).length ≤ n := by have := length_doAll (many n P) []; rw [many_len] at this; simpa using this
            have HPut : Hid (∀ (W : World) (b1 n' cc : Nat), Keeps Non wr W → RdB W (some ⟨b1, 0, none⟩) n' (zeros n') → n' = vl → Calls Try.prog 58 #[.pointer (some ⟨c, 0, none⟩), sv (zeros kl), .slice (some ⟨b1, 0, none⟩) n' cc] W fun e w' => e = .returned (.int .i64 0) ∧ (∃ v', Ses w' B F s b p g m 0 d L0 [] c mc v' (many (n + 1) P) (Kv.doAll [] (many (n + 1) P)) false) ∧ Keeps Non w w') := fun W b1 n' cc hW hr hn => by
              have hEW := hE.keepN hW
              refine (put_ok (zeros kl) (zeros n') (by rw [zeros_len]; omega) (by rw [zeros_len]; omega) (by rw [zeros_len]; omega) (some ⟨b1, 0, none⟩) n' cc (by rw [many_len]; omega) (by omega) hEW.ch hr hEW.sv.lt).mono ?_
              intro e w' ha
              obtain ⟨he, ⟨v', hE'⟩, hk'⟩ := Ses.added hEW ha
              refine ⟨he, ⟨v', ?_⟩, (hk.trans hW).into hk' fun k q1 q2 => by have := HBw.out; show False; omega⟩
              rw [many_succ, Kv.doAll_snoc]
              rw [hn, ← HP.out] at hE'
              exact hE'
            have hmk := make_zeros kl (by omega)
            have hmv := make_zeros vl (by omega)
            obtain ⟨cv1, cv2, cv3⟩ := keys_conv kl vl (by omega) wr 5 5
            obtain ⟨r1, k1, r2, k2⟩ := vals_kv kl vl (by omega) wr
            have P1 := HPut.out (Wkv wr kl vl) (wr.heap.size + 1) vl vl k1 r1 rfl
            have P2 := HPut.out (Wkv wr vl kl) wr.heap.size vl vl k2 r2 rfl
            unfold Wkv at P1 P2
            obtain ⟨K, hK⟩ : ∃ K, K = Obj.cells ((zeros kl).map bv).toArray 5 := ⟨_, rfl⟩
            obtain ⟨V, hV⟩ : ∃ V, V = Obj.cells ((zeros vl).map bv).toArray 5 := ⟨_, rfl⟩
            obtain ⟨ks, hks⟩ : ∃ ks, ks = (⟨(zeros kl).toArray⟩ : ByteArray) := ⟨_, rfl⟩
            unfold sv at P1 P2
            simp only [← hK, ← hV, ← hks] at P1 P2 hmk hmv cv1 cv2 cv3
            have P1 := Lib.hid P1
            have P2 := Lib.hid P2
            have HkO := Lib.hid hk
            have HEO := Lib.hid hE
            clear r1 k1 r2 k2 HPut hk hK hV hks hE
            go_wp2_with fail
            go_region_with (go_at_call 58; (first | (with_reducible refine P1.out.mono ?_) | (with_reducible refine P2.out.mono ?_)); rintro e w7 ⟨rfl, ⟨v7, hE7⟩, k7⟩)
            all_goals
              have HE7 := Lib.hid hE7
              have HqS : Hid (y + 4 + kl + vl = (n + 1) * q0) := by
                show _ = _
                rw [Nat.succ_mul, ← Hy.out, HQ.out]
                omega
              have hyb2 : y + 4 + kl + vl ≤ 270592 := by
                have := HqS.out
                have h64 : (n + 1) * q0 ≤ 64 * 4228 := Nat.mul_le_mul (by omega) hqb
                omega
              clear hE7
              go_wp2_with fail
              go_roundw
              case rel => exact ⟨j + 1, n + 1, y + 4 + kl + vl, v7, by omega, by omega, by omega, by go_num, by go_num, by go_num, HqS, hyb2, HE7.out, k7⟩
              case measure => simp [intOf]; omega
        · obtain rfl : j = st := by omega
          have henc : (Kv.encAll (many n P)).length = y := by rw [many_enc, Henc.out]; exact Hy.out.symm
          have hPok : ∀ q ∈ many n P, q.ok := fun q hq => by
            have : q = P := (List.mem_replicate.1 hq).2
            rw [this, HP.out]
            exact ⟨by show 1 ≤ (zeros kl).length; rw [zeros_len]; omega, by show (zeros kl).length ≤ 128; rw [zeros_len]; omega, by show (zeros vl).length ≤ 4096; rw [zeros_len]; omega, fun e => by cases e⟩
          have hTl : (Kv.doAll [] (many n P)).length ≤ n := by have := length_doAll (many n P) []; rw [many_len] at this; simpa using this
          by_cases hbig : 65536 < y
          · have hn0 : ¬ n = 0 := fun e => by have := Hy.out; rw [e, Nat.zero_mul] at this; omega
            have Hc := Lib.hid (commit_size b m (by decide) hPok (by rw [henc]; omega) (by rw [henc]; exact hbig) hE.sv.st hE.ch)
            have HE := Lib.hid hE
            have Hk := Lib.hid hk
            clear hE hk henc hTl hPok
            go_wp2_with fail
            refine Hc.out.mono ?_
            rintro e w6 ⟨rfl, hc6, k6⟩
            have hE6 := HE.out.move k6 (fun k q => by rw [q]; exact HE.out.lc) hc6 HE.out.lv
            have hk6 : Keeps Non w w6 := Hk.out.into k6 fun k q1 q2 => by
              have := HBw.out; have := HE.out.lc
              show False
              omega
            have Hl := Lib.hid (slen_any (Zs p g F s) s b m 0 _ w6 hE6.sv.st hE6.sv.tab)
            clear Hc k6 hc6 hE6 HE Hk
            go_wp2_with fail
            refine Hl.out.mono ?_
            rintro e w' ⟨rfl, rfl⟩
            go_wp2_with fail
            go_ret
            exact ⟨rfl, hk6.none_below⟩
          · have hts := Kv.tsize_doAll (many n P) []
            rw [show Kv.tsize ([] : Tab) = 0 from rfl, Nat.zero_add, henc] at hts
            have hcap : Kv.tsize (Kv.doAll [] (many n P)) ≤ 4228 := by
              cases n with
              | zero => exact Nat.zero_le _
              | succ n =>
                rw [HP.out, many_do]
                simp [Kv.tsize, zeros_len]
                omega
            have hrc : Kv.rcost (Kv.doAll [] (many n P)) ≤ 9 + 4228 := by unfold Kv.rcost; split <;> omega
            have Hc := Lib.hid (commit_fresh2 hE (by decide) hL Kv.Says.nil hlit rfl hPok (by omega) (by decide) (by omega) (by omega) (by rw [hz]; omega))
            have hlc := hE.lc
            have Hk := Lib.hid hk
            clear hE hk henc hPok hts hcap hrc
            go_wp2_with fail
            refine Hc.out.mono ?_
            rintro e w6 ⟨rfl, F6, m6, age6, d6, L6, hS6, -, -, -, -, -, -, k6⟩
            have hk6 : Keeps Non w w6 := Hk.out.into k6 fun k q1 q2 => by
              have := HBw.out
              show False
              rcases q2 with q | q
              · omega
              · have := HZ.out k q; omega
            have Hl := Lib.hid (slen_any (Zs p g F6 s) s b m6 age6 _ w6 hS6.st hS6.tab)
            clear Hc k6 hS6
            cases n with
            | zero =>
              go_wp2_with fail
              refine Hl.out.mono ?_
              rintro e w' ⟨rfl, rfl⟩
              go_wp2_with fail
              go_ret
              exact ⟨rfl, hk6.none_below⟩
            | succ n =>
              rw [HP.out, many_do] at Hl
              go_wp2_with fail
              refine Hl.out.mono ?_
              rintro e w' ⟨rfl, rfl⟩
              go_wp2_with fail
              go_ret
              exact ⟨rfl, hk6.none_below⟩
end Go.Proofs.Ytbmamhcjbhnkiaa
