/- Layer 9: the walks of Begin, add, Put and Drop. -/
import Derived.Test.YtbmamhcjbhnkiaaKzg
import Derived.Deep.RegionLaw
namespace Go.Proofs.Ytbmamhcjbhnkiaa
open Go.RowKit Go.Maps
open Kv (Bs Tab)

/-- append of any source, at a step of a region that draws, and where the new slice lies. -/
theorem step_append_loc {P : Program} {w : World} {ops : Array Oper} {o : Oper} {a : Act} {K : Act → World → Prop} {Q : Exit → Act → World → Prop} {E : Prop} (hgd : o.guard = none) (s x : Operand) (t tx : TypeId)
    (ho : o.op = .call { callee := .builtin .append, args := #[s, x], argTypes := #[t, tx] })
    (base : Nat) (e : TypeId) (i : TypeInfo) (z : Value) (size bytes : Nat) (ht : P.underlying t = some (.slice e)) (hi : P.info? e = some i) (hz : i.zero = some z)
    (hsize : i.size = size) (hby : i.bytes = bytes) (hzs : z.cells.size = size) (hsz : 0 < size)
    (v : Value) (n : Nat) (xs : List Value) (hs : a.eval s = v) (hown : w.ownsRow base e size v n xs)
    (xv : Value) (m : Nat) (news : List Value) (hx : a.eval x = xv) (hsrc : Src P size tx xv m news w)
    (h63 : n + m ≤ maxLen) (hbytes : (n + m) * bytes ≤ 140737488355328) (hbase : base ≤ w.heap.size)
    (h : ∀ v' w', w'.ownsRow base e size v' (n + m) (xs ++ news) → w.grownBy w' v.ownBlock → (v'.ownBlock = v.ownBlock ∨ v'.ownBlock = some w.heap.size) → K (a.put o.dst v') w') :
    if Region.wanted o (yielded ops a.tmps) = true then Oper.wp P o a w K Q else E := by
  have hw : Region.wanted o (yielded ops a.tmps) = true := by simp [Region.wanted, hgd]
  rw [if_pos hw]
  obtain ⟨v', w', hrun, h1, h2, h3⟩ := run_append_own_src (P := P) w base t tx o.type e i z size bytes ht hi hz hsize hby hzs hsz v n xs hown xv m news hsrc h63 hbytes hbase
  unfold Oper.wp
  simp [execOp, ho, resolve, invoke, builtin, hs, hx, hrun, Result.andThen]
  exact h v' w' h1 h2 h3
theorem own_slice {w : World} {base size n : Nat} {e : TypeId} {v : Value} {xs : List Value} (h : w.ownsRow base e size v n xs) : ∃ A c, v = .slice A n c := by
  rcases h.2 with ⟨rfl, h0⟩ | ⟨g, cap, cur, rfl, _⟩
  · exact ⟨none, 0, by rw [h0]⟩
  · exact ⟨_, _, rfl⟩
theorem info_step' : ∃ i, Try.prog.info? 146 = some i ∧ i.zero = some (.agg #[.int .u8 0, .string ⟨#[]⟩, .slice none 0 0]) ∧ i.size = 3 ∧ i.bytes = 48 := by
  obtain ⟨i, hi, hz⟩ := Option.map_eq_some_iff.1 info_step
  simp only [Prod.mk.injEq] at hz
  exact ⟨i, hi, hz.1, hz.2.1, hz.2.2⟩

/-- The blocks that a change may turn. -/
def Cb (c m : Nat) (v : Value) : Nat → Prop := fun k => k = c ∨ k = m ∨ v.ownBlock = some k

/-- A step was appended, and the slice laid into the change. -/
theorem Chg.appended {Y : Nat → Prop} {w w4 : World} {c s m age : Nat} {v v4 : Value} {l : List Kv.St} {T : Tab} {R : List Value} {p : Kv.St} {A : Option Addr} {n cc : Nat} (h : Chg Y w c s m v l T age false) (hR : StepsAt (fun k => Y k ∨ v.ownBlock = some k) w v l R)
    (hs : SlZ (fun k => Y k ∨ v.ownBlock = some k) w A n cc p.v) (hgrow : w.grownBy w4 v.ownBlock) (hloc : v4.ownBlock = v.ownBlock ∨ v4.ownBlock = some w.heap.size)
    (hown : w4.ownsRow 0 146 3 v4 (l.length + 1) ((List.zipWith stf l R).flatten ++ stf p (.slice A n cc))) (hy : ∀ k, Y k → k < w.heap.size) :
    Chg Y (w4.setCell ⟨c, 2, none⟩ v4) c s m v4 (l ++ [p]) T age false ∧ Keeps (Cb c m v) w (w4.setCell ⟨c, 2, none⟩ v4) ∧ (v4.ownBlock = v.ownBlock ∨ ∃ g, v4.ownBlock = some g ∧ w.heap.size ≤ g) ∧ SlZ (fun k => Y k ∨ v4.ownBlock = some k) (w4.setCell ⟨c, 2, none⟩ v4) A n cc p.v := by
  obtain ⟨n1, n2, n3⟩ := h.row_ne
  have k4 := Keeps.of_grown hgrow
  have hst := k4.at_ h.st (fun e => n1 e.symm)
  have hnot : ∀ g, v4.ownBlock = some g → ¬ Y g := fun g hg => by
    rcases hloc with e | e
    · exact h.ry g (e ▸ hg)
    · intro q
      have := hy g q
      rw [hg] at e
      injection e with e
      omega
  have turnZ : ∀ {A : Option Addr} {n cc : Nat} {q : Bs}, SlZ (fun k => Y k ∨ v.ownBlock = some k) w A n cc q → SlZ (fun k => Y k ∨ v4.ownBlock = some k) w4 A n cc q := fun {A n cc q} hq =>
    ⟨hq.rd.keep k4 (fun q0 a ha e => hq.out q0 a ha (.inr e.symm)), hq.nc, hq.cm, fun q0 a ha e => by
      rcases e with e | e
      · exact hq.out q0 a ha (.inl e)
      · rcases hloc with e' | e'
        · exact hq.out q0 a ha (.inr (e' ▸ e))
        · have := hq.rd.old q0 a ha
          rw [e'] at e
          injection e with e
          omega⟩
  have htab : TabW (fun k => Y k ∨ v4.ownBlock = some k) w4 m T := by
    obtain ⟨es, ⟨xs, clock, q1, q2⟩, q3⟩ := h.tab.ex
    refine ⟨⟨es, ⟨xs, clock, k4.at_ q1 (fun e => n2 e.symm), q2⟩, q3.mono fun a b q => ?_⟩, h.tab.rise⟩
    obtain ⟨A, n, c, r1, r2⟩ := q.val
    exact ⟨q.key, A, n, c, r1, turnZ r2⟩
  obtain ⟨A4, q4, e4⟩ := own_slice hown
  have hnu : ∀ (j : Nat) (x : Int), (#[.pointer (some ⟨s, 0, none⟩), .map (some m), v, .int .i64 (age : Int), .bool false] : Array Value)[j]? ≠ some (.int .u8 x) := fun j x => by
    obtain ⟨A', c', e'⟩ := own_slice hR.row
    subst e'
    match j with
    | 0 => simp
    | 1 => simp
    | 2 => simp
    | 3 => simp
    | 4 => simp
    | _ + 5 => simp
  have k5 : Keeps (fun k => k = c) w4 (w4.setCell ⟨c, 2, none⟩ v4) := (Keeps.refl _ _).set1 2 v4
  have turn5 : ∀ {A : Option Addr} {n cc : Nat} {q : Bs}, SlZ (fun k => Y k ∨ v4.ownBlock = some k) w4 A n cc q → SlZ (fun k => Y k ∨ v4.ownBlock = some k) (w4.setCell ⟨c, 2, none⟩ v4) A n cc q := fun {A n cc q} hq =>
    ⟨hq.rd.keep k5 (fun q0 a ha e => RdB.off hst hnu hq.rd q0 a ha e), hq.nc, hq.cm, hq.out⟩
  have n4 : v4.ownBlock ≠ some c := fun e => by
    rcases hloc with q | q
    · exact n1 (q ▸ e)
    · rw [e] at q
      injection q with q
      have := (Array.getElem?_eq_some_iff.1 h.st).1
      omega
  have hpush := hR.push (v' := v4) hs hgrow hloc hown
  refine ⟨⟨setCell_row w4 c 2 _ _ _ hst v4, ?_, ⟨_, own_kept hpush.row k5 (fun g hg e => n4 (e ▸ hg)), hpush.sl, fun j q hq => ?_⟩, h.cy, h.my, hnot⟩, ?_, ?_, ?_⟩
  · obtain ⟨es, ⟨xs, clock, q1, q2⟩, q3⟩ := htab.ex
    refine ⟨⟨es, ⟨xs, clock, k5.at_ q1 (fun e => n3 e.symm), q2⟩, q3.mono fun a b q => ?_⟩, h.tab.rise⟩
    obtain ⟨A, n, c, r1, r2⟩ := q.val
    exact ⟨q.key, A, n, c, r1, turn5 r2⟩
  · obtain ⟨A', n', c', r1, r2⟩ := hpush.el j q hq
    exact ⟨A', n', c', r1, turn5 r2⟩
  · exact (k4.mono (T := Cb c m v) fun k _ e => .inr (.inr e.symm)).trans (k5.mono fun k _ e => .inl e)
  · rcases hloc with e | e
    · exact .inl e
    · exact .inr ⟨_, e, Nat.le_refl _⟩
  · exact turn5 (turnZ hs)

/-- The change's table has turned. -/
theorem Chg.did {Y : Nat → Prop} {w w' : World} {c s m age : Nat} {v : Value} {l : List Kv.St} {T T' : Tab} {over : Bool} (h : Chg Y w c s m v l T age over) (hk : Keeps (fun k => k = m) w w') (hT : TabW (fun k => Y k ∨ v.ownBlock = some k) w' m T') : Chg Y w' c s m v l T' age over := by
  obtain ⟨n1, n2, n3⟩ := h.row_ne
  obtain ⟨es, clock, hm⟩ := h.tab.map
  obtain ⟨R, hR⟩ := h.own
  refine ⟨hk.at_ h.st n3, hT, ⟨R, own_kept hR.row hk (fun g hg e => n2 (e ▸ hg)), hR.sl, fun j p hp => ?_⟩, h.cy, h.my, h.ry⟩
  obtain ⟨A, n, c, q1, q2⟩ := hR.el j p hp
  exact ⟨A, n, c, q1, ⟨q2.rd.keep hk (fun q0 a ha => q2.rd.not_map hm q0 a ha), q2.nc, q2.cm, q2.out⟩⟩

section
variable {Y : Nat → Prop} {w : World} {c s m age : Nat} {v : Value} {l : List Kv.St} {T : Tab}
theorem add_over (p : Kv.St) (A : Option Addr) (n cc : Nat) (h : Chg Y w c s m v l T age true) :
    Calls Try.prog 93 #[.pointer (some ⟨c, 0, none⟩), .agg #[kd p, sv p.k, .slice A n cc]] w fun e w' => e = .returned (.int .i64 16) ∧ Keeps Non w w' := by
  have k1 : Keeps Non w (w.alloc (.cells #[kd p, sv p.k, .slice A n cc] 146)) := (Keeps.refl _ _).alloc _
  obtain ⟨c0, c1, c2, c3, c4⟩ := five (k1.at_ h.st id)
  clear h
  go_enter Try.func93, Try.ntmps93
  go_wp2_with fail
  go_ret
  exact ⟨rfl, k1⟩
/-- What add refuses. -/
def addErr (kl vl many : Nat) : Int := if kl < 1 ∨ 128 < kl ∨ 4096 < vl then 11 else if many = 64 then 14 else 0
set_option maxHeartbeats 4000000 in
theorem add_no (p : Kv.St) (A : Option Addr) (n cc : Nat) (he : addErr p.k.length n l.length ≠ 0) (h : Chg Y w c s m v l T age false) :
    Calls Try.prog 93 #[.pointer (some ⟨c, 0, none⟩), .agg #[kd p, sv p.k, .slice A n cc]] w fun e w' => e = .returned (.int .i64 (addErr p.k.length n l.length)) ∧ Keeps Non w w' := by
  have k1 : Keeps Non w (w.alloc (.cells #[kd p, sv p.k, .slice A n cc] 146)) := (Keeps.refl _ _).alloc _
  obtain ⟨c0, c1, c2, c3, c4⟩ := five (k1.at_ h.st id)
  obtain ⟨t0, t1, t2⟩ := trio (heap_new w (.cells #[kd p, sv p.k, .slice A n cc] 146))
  obtain ⟨R, hR⟩ := h.own
  obtain ⟨Av, cv, rfl⟩ : ∃ A c, v = .slice A l.length c := by
    rcases hR.row.2 with ⟨rfl, h0⟩ | ⟨g', cap, cur, rfl, _, hg', _⟩
    · exact ⟨none, 0, by rw [h0]⟩
    · exact ⟨_, _, rfl⟩
  obtain ⟨many, hmany⟩ : ∃ q, q = l.length := ⟨_, rfl⟩
  rw [← hmany] at c2 he ⊢
  obtain ⟨k, hk⟩ : ∃ k, k = p.k := ⟨_, rfl⟩
  rw [← hk] at c0 c1 c2 c3 c4 k1 t0 t1 t2 he ⊢
  obtain ⟨z, hz⟩ : ∃ z, z = kz p := ⟨_, rfl⟩
  unfold kd at c0 c1 c2 c3 c4 k1 t0 t1 t2 ⊢
  rw [← hz] at c0 c1 c2 c3 c4 k1 t0 t1 t2 ⊢
  clear h hR hmany hk hz
  by_cases h1 : k = []
  · subst h1
    have HE : Hid (addErr ([] : Bs).length n many = 11) := by show _ = _; simp [addErr]
    rw [HE.out]
    clear he
    go_enter Try.func93, Try.ntmps93
    go_wp2_with fail
    go_ret
    exact ⟨rfl, k1⟩
  · have hkl : 1 ≤ k.length := by cases k; exact absurd rfl h1; simp
    have hke : List.isEmpty k = false := by cases k; exact absurd rfl h1; rfl
    by_cases h2 : 128 < k.length
    · have HE : Hid (addErr k.length n many = 11) := by show _ = _; simp [addErr, h2]
      rw [HE.out]
      clear he
      go_enter Try.func93, Try.ntmps93
      go_wp2_with fail
      go_ret
      exact ⟨rfl, k1⟩
    · by_cases h3 : 4096 < n
      · have HE : Hid (addErr k.length n many = 11) := by show _ = _; simp [addErr, h3]
        rw [HE.out]
        clear he
        go_enter Try.func93, Try.ntmps93
        go_wp2_with fail
        go_ret
        exact ⟨rfl, k1⟩
      · have h4 : many = 64 := by
          unfold addErr at he
          rw [if_neg (by omega)] at he
          by_cases q : many = 64
          · exact q
          · rw [if_neg q] at he; exact absurd rfl he
        subst h4
        have HE : Hid (addErr k.length n 64 = 14) := by show _ = _; unfold addErr; rw [if_neg (by omega), if_pos rfl]
        rw [HE.out]
        clear he
        go_enter Try.func93, Try.ntmps93
        go_wp2_with fail
        go_ret
        exact ⟨rfl, k1⟩

set_option maxHeartbeats 8000000 in
set_option maxRecDepth 100000 in
theorem add_ok (p : Kv.St) (hp : p.ok) (A : Option Addr) (n cc : Nat) (hl : l.length < 64) (hT : T.length ≤ 1048576) (h : Chg Y w c s m v l T age false) (hs : SlZ (fun k => Y k ∨ v.ownBlock = some k) w A n cc p.v) (hy : ∀ k, Y k → k < w.heap.size) :
    Calls Try.prog 93 #[.pointer (some ⟨c, 0, none⟩), .agg #[kd p, sv p.k, .slice A n cc]] w fun e w' => e = .returned (.int .i64 0) ∧ ∃ v', Chg Y w' c s m v' (l ++ [p]) (Kv.do1 T p) age false ∧ Keeps (Cb c m v) w w' ∧ (v'.ownBlock = v.ownBlock ∨ ∃ g, v'.ownBlock = some g ∧ w.heap.size ≤ g) := by
  have k1 : Keeps Non w (w.alloc (.cells #[kd p, sv p.k, .slice A n cc] 146)) := (Keeps.refl _ _).alloc _
  have h1 := h.keepN k1
  have hs1 := hs.keep k1 (fun _ q => q.elim)
  have b1 := heap_new w (.cells #[kd p, sv p.k, .slice A n cc] 146)
  obtain ⟨c0, c1, c2, c3, c4⟩ := five h1.st
  obtain ⟨t0, t1, t2⟩ := trio b1
  obtain ⟨R, hR⟩ := h1.own
  obtain ⟨n1, n2, n3⟩ := h1.row_ne
  obtain ⟨Av, cv, rfl⟩ : ∃ A c, v = .slice A l.length c := by
    rcases hR.row.2 with ⟨rfl, h0⟩ | ⟨g', cap, cur, rfl, _, hg', _⟩
    · exact ⟨none, 0, by rw [h0]⟩
    · exact ⟨_, _, rfl⟩
  have hpe : List.isEmpty p.k = false := by have := hp.1; cases hk : p.k; rw [hk] at this; simp at this; rfl
  have hp2 := hp.2.1
  have hpn : n ≤ 4096 := by rw [← hs.rd.len]; exact hp.2.2.1
  have hl64 : ¬ l.length = 64 := by omega
  obtain ⟨w1, hw1⟩ : ∃ w1, w1 = w.alloc (.cells #[kd p, sv p.k, .slice A n cc] 146) := ⟨_, rfl⟩
  have H1 := Lib.hid hw1
  go_enter Try.func93, Try.ntmps93
  go_wp2_with fail
  rw [← hw1] at k1 h1 hs1 b1 c0 c1 c2 c3 c4 t0 t1 t2 hR ⊢
  obtain ⟨i0, hi0, hz0, hs0, hb0⟩ := info_step'
  obtain ⟨v, hv⟩ : ∃ v, v = Value.slice Av l.length cv := ⟨_, rfl⟩
  have HV := Lib.hid hv
  have hrow := hR.row
  have kd1 : Keeps Non w1 (w1.drew.alloc (.cells #[kd p, sv p.k, .slice A n cc] 146)) := ((Keeps.refl _ _).drew).alloc _
  have hrowA := own_kept hrow kd1 (fun _ _ q => q)
  have hsrcA := Src.ofSlice (P := Try.prog) (w := w1.drew.alloc (.cells #[kd p, sv p.k, .slice A n cc] 146)) (size := 3) Try.underlying137 ⟨w1.heap.size, 0, none⟩ 1 1 [kd p, sv p.k, .slice A n cc] rfl (World.news_of_block (heap_new w1.drew _)) (fun u hu => by simp at hu; rcases hu with rfl | rfl | rfl <;> rfl)
  have h2 := h1.keepN kd1
  have bA := kd1.at_ b1 id
  have c2A : (w1.alloc (.cells #[kd p, sv p.k, .slice A n cc] 146)).cell? ⟨c, 2, none⟩ = some (.slice Av l.length cv) := kd1.cell c2 id
  clear hw1
  go_region_law (first
    | (refine step_append_loc (by rfl) _ _ _ _ (by rfl) 0 146 i0 (.agg #[.int .u8 0, .string ⟨#[]⟩, .slice none 0 0]) 3 48 Try.underlying137 hi0 hz0 hs0 hb0 rfl (by omega) _ l.length _ (by rfl) hrowA _ 1 [kd p, sv p.k, .slice A n cc] (by rfl) hsrcA (by unfold maxLen; omega) (by omega) (Nat.zero_le _) ?_; intro v4 w4 hown4 hgrow4 hloc4; obtain ⟨A4, q4, rfl⟩ := own_slice hown4; have c24 : w4.cell? ⟨c, 2, none⟩ = some (.slice Av l.length cv) := (Keeps.of_grown hgrow4).cell (kd1.cell c2 id) (fun e => n1 e.symm); have f24 : w4.frozen? ⟨c, 2, none⟩ = false := free ((Keeps.of_grown hgrow4).at_ h2.st (fun e => n1 e.symm)) 2))
  all_goals
    obtain ⟨g1, g2, g3, g4⟩ := Chg.appended h2 (hR.keep kd1 (fun _ q => q.elim) (fun _ _ q => q)) (hs1.keep kd1 (fun _ q => q.elim)) hgrow4 hloc4 hown4 (fun k q => by have := hy k q; have := k1.size; have := kd1.size; omega)
    have K5 : Keeps (Cb c m (Value.slice Av l.length cv)) w (w4.setCell ⟨c, 2, none⟩ (.slice A4 (l.length + 1) q4)) := ((k1.trans kd1).mono (fun _ _ q => q.elim)).trans g2
    have g3' : (Value.slice A4 (l.length + 1) q4).ownBlock = (Value.slice Av l.length cv).ownBlock ∨ ∃ g, (Value.slice A4 (l.length + 1) q4).ownBlock = some g ∧ w.heap.size ≤ g := by
      rcases g3 with e | ⟨g, e1, e2⟩
      · exact .inl e
      · exact .inr ⟨g, e1, by have := (k1.trans kd1).size; omega⟩
    have b5 := g2.at_ bA (by
      have hcl := (Array.getElem?_eq_some_iff.1 h.st).1
      have hml := h.tab.lt
      rintro (e | e | e)
      · omega
      · omega
      · obtain ⟨R', hR'⟩ := h.own
        rcases hR'.row.2 with ⟨q, _⟩ | ⟨g', cap, cur, q, _, hg', _⟩
        · rw [q] at e; simp [Value.ownBlock] at e
        · rw [q] at e
          have e : g' = w.heap.size := by simpa [Value.ownBlock] using e
          have := (Array.getElem?_eq_some_iff.1 hg').1
          omega)
    obtain ⟨w5, hw5⟩ : ∃ w5, w5 = w4.setCell ⟨c, 2, none⟩ (.slice A4 (l.length + 1) q4) := ⟨_, rfl⟩
    rw [← hw5] at g1 K5 b5 g4 ⊢
    obtain ⟨d0, d1, d2, d3, d4⟩ := five g1.st
    obtain ⟨y0, y1, y2⟩ := trio b5
    have k5 : Keeps Non w5 w5.drew := (Keeps.refl _ _).drew
    have hmw : ¬ w.heap.size = m := by have := h.tab.lt; omega
    have HD := Lib.hid (do_any p hp _ m T (by omega) A n cc w5.drew (g1.tab.keepN k5) (g4.keep k5 (fun _ q => q.elim)))
    have G1 := Lib.hid g1
    have e1 := G1.out.row_ne
    clear h hs n1 n2 n3 hR t0 t1 t2 c0 c1 c2 c3 c4 b1 hs1 h1 k1 hv HV hrow kd1 hrowA hsrcA h2 bA c2A hgrow4 hown4 hloc4 c24 f24 g2 g4 b5 hw5 g1 k5 g3
    go_wp2_with fail
    go_region_held3 (fun w' => w'.cell? ⟨c, 1, none⟩ = some (.map (some m)) ∧ w'.cell? ⟨w.heap.size, 0, none⟩ = some (kd p) ∧ w'.cell? ⟨w.heap.size, 0 + 1, none⟩ = some (sv p.k) ∧ w'.cell? ⟨w.heap.size, 0 + 2, none⟩ = some (.slice A n cc)) (first | exact ⟨d1, y0, y1, y2⟩ | exact ⟨by simpa using d1, by simpa using y0, by simpa using y1, by simpa using y2⟩ | exact ⟨x1, z0, z1, z2⟩) (first
      | (go_at_call 112; refine HD.out.mono ?_; rintro e w6 ⟨rfl, h6, k6⟩; have x1 := k6.cell (show w5.drew.cell? ⟨c, 1, none⟩ = some (.map (some m)) from d1) e1.2.2; have z0 := k6.cell (show w5.drew.cell? ⟨w.heap.size, 0, none⟩ = some (kd p) from y0) hmw; have z1 := k6.cell (show w5.drew.cell? ⟨w.heap.size, 0 + 1, none⟩ = some (sv p.k) from y1) hmw; have z2 := k6.cell (show w5.drew.cell? ⟨w.heap.size, 0 + 2, none⟩ = some (.slice A n cc) from y2) hmw))
    have k6' : Keeps (fun k => k = m) w5 w6 := ((Keeps.refl _ w5).drew).trans k6
    have h7 := G1.out.did k6' h6
    have K6 := Lib.hid (K5.trans (k6'.mono fun k _ e => .inr (.inl e)))
    have G3 := Lib.hid g3'
    have H7 := Lib.hid h7
    clear h6 k6 k6' h7 x1 z0 z1 z2 d0 d1 d2 d3 d4 y0 y1 y2 K5 g3' e1 HD
    go_wp2_with fail
    go_ret
    exact ⟨rfl, _, H7.out, K6.out, G3.out⟩
end
end Go.Proofs.Ytbmamhcjbhnkiaa

/- Layer 9: the walks of Put, Drop and Begin. -/
namespace Go.Proofs.Ytbmamhcjbhnkiaa
open Go.RowKit Go.Maps
open Kv (Bs Tab)

section
variable {Y : Nat → Prop} {w : World} {c s m age : Nat} {v : Value} {l : List Kv.St} {T : Tab}
theorem own_lt {w : World} {base size n : Nat} {e : TypeId} {v : Value} {xs : List Value} (h : w.ownsRow base e size v n xs) {g : Nat} (hg : v.ownBlock = some g) : g < w.heap.size := by
  rcases h.2 with ⟨rfl, _⟩ | ⟨g', cap, cur, rfl, _, hg', _⟩
  · simp [Value.ownBlock] at hg
  · have : g' = g := by simpa [Value.ownBlock] using hg
    subst this
    exact (Array.getElem?_eq_some_iff.1 hg').1
theorem Chg.row_lt {over : Bool} (h : Chg Y w c s m v l T age over) {g : Nat} (hg : v.ownBlock = some g) : g < w.heap.size := by
  obtain ⟨R, hR⟩ := h.own
  exact own_lt hR.row hg

/-- What Put and Drop answer where they are allowed. -/
def RetAdd (Y : Nat → Prop) (w : World) (c s m age : Nat) (v : Value) (l : List Kv.St) (T : Tab) (p : Kv.St) (e : Ending) (w' : World) : Prop :=
  e = .returned (.int .i64 0) ∧ ∃ v', Chg Y w' c s m v' (l ++ [p]) (Kv.do1 T p) age false ∧ Keeps (Cb c m v) w w' ∧ (v'.ownBlock = v.ownBlock ∨ ∃ g, v'.ownBlock = some g ∧ w.heap.size ≤ g)

theorem put_ok (k x : Bs) (hk1 : 1 ≤ k.length) (hk2 : k.length ≤ 128) (hx : x.length ≤ 4096) (A : Option Addr) (n cc : Nat) (hl : l.length < 64) (hT : T.length ≤ 1048576) (h : Chg Y w c s m v l T age false) (hr : RdB w A n x) (hy : ∀ k, Y k → k < w.heap.size) :
    Calls Try.prog 58 #[.pointer (some ⟨c, 0, none⟩), sv k, .slice A n cc] w (RetAdd Y w c s m age v l T ⟨false, k, x⟩) := by
  go_enter Try.func58, Try.ntmps58
  go_wp2_with fail
  refine (clone_any A n cc x w hr).mono ?_
  rintro e w1 ⟨A1, n1, c1, rfl, r1, k1, g1, m1, x1⟩
  have h1 := h.keepN k1
  have hs : SlZ (fun k => Y k ∨ v.ownBlock = some k) w1 A1 n1 c1 x := ⟨r1, m1, x1, fun h0 a ha e => by
    have := g1 a ha
    rcases e with e | e
    · have := hy _ e; omega
    · have := h.row_lt e; omega⟩
  have H := Lib.hid (add_ok ⟨false, k, x⟩ ⟨hk1, hk2, hx, fun e => by cases e⟩ A1 n1 c1 hl hT h1 hs (fun k q => by have := hy k q; have := k1.size; omega))
  have z1 := k1.size
  have K1 : Keeps (Cb c m v) w w1 := k1.mono fun _ _ q => q.elim
  clear h h1 hs r1 k1 g1
  go_wp2_with fail
  refine H.out.mono ?_
  rintro e w2 ⟨rfl, v', h2, k2, g2⟩
  clear H
  go_wp2_with fail
  go_ret
  refine ⟨rfl, v', h2, K1.trans k2, ?_⟩
  rcases g2 with e | ⟨g, e1, e2⟩
  · exact .inl e
  · exact .inr ⟨g, e1, by omega⟩
theorem put_no (k x : Bs) (A : Option Addr) (n cc : Nat) (h : Chg Y w c s m v l T age false) (he : addErr k.length n l.length ≠ 0) (hr : RdB w A n x) :
    Calls Try.prog 58 #[.pointer (some ⟨c, 0, none⟩), sv k, .slice A n cc] w fun e w' => e = .returned (.int .i64 (addErr k.length n l.length)) ∧ Keeps Non w w' := by
  have hn := hr.len
  go_enter Try.func58, Try.ntmps58
  go_wp2_with fail
  refine (clone_any A n cc x w hr).mono ?_
  rintro e w1 ⟨A1, n1, c1, rfl, r1, k1, g1, m1, x1⟩
  have hn1 : n1 = n := by rw [← r1.len, hn]
  subst hn1
  have H := Lib.hid (add_no (w := w1) ⟨false, k, x⟩ A1 n1 c1 he (h.keepN k1))
  obtain ⟨er, her⟩ : ∃ er, er = addErr k.length n1 l.length := ⟨_, rfl⟩
  have HE := Lib.hid her
  clear h r1 g1 he her
  go_wp2_with fail
  refine H.out.mono ?_
  rw [← HE.out]
  rintro e w2 ⟨rfl, k2⟩
  clear H
  go_wp2_with fail
  go_ret
  exact ⟨by rw [← HE.out]; rfl, k1.trans k2⟩
theorem put_over (k : Bs) (A : Option Addr) (n cc : Nat) (x : Bs) (h : Chg Y w c s m v l T age true) (hr : RdB w A n x) :
    Calls Try.prog 58 #[.pointer (some ⟨c, 0, none⟩), sv k, .slice A n cc] w fun e w' => e = .returned (.int .i64 16) ∧ Keeps Non w w' := by
  go_enter Try.func58, Try.ntmps58
  go_wp2_with fail
  refine (clone_any A n cc x w hr).mono ?_
  rintro e w1 ⟨A1, n1, c1, rfl, r1, k1, g1, m1, x1⟩
  have H := Lib.hid (add_over (w := w1) ⟨false, k, x⟩ A1 n1 c1 (h.keepN k1))
  clear h r1 g1
  go_wp2_with fail
  refine H.out.mono ?_
  rintro e w2 ⟨rfl, k2⟩
  clear H
  go_wp2_with fail
  go_ret
  exact ⟨rfl, k1.trans k2⟩
theorem drop_ok (k : Bs) (hk1 : 1 ≤ k.length) (hk2 : k.length ≤ 128) (hl : l.length < 64) (hT : T.length ≤ 1048576) (h : Chg Y w c s m v l T age false) (hy : ∀ k, Y k → k < w.heap.size) :
    Calls Try.prog 89 #[.pointer (some ⟨c, 0, none⟩), sv k] w (RetAdd Y w c s m age v l T ⟨true, k, []⟩) := by
  have H := Lib.hid (add_ok ⟨true, k, []⟩ ⟨hk1, hk2, by simp, fun _ => rfl⟩ none 0 0 hl hT h (SlZ.nil _ _) hy)
  clear h
  go_enter Try.func89, Try.ntmps89
  go_wp2_with fail
  refine H.out.mono ?_
  rintro e w2 ⟨rfl, v', h2, k2, g2⟩
  clear H
  go_wp2_with fail
  go_ret
  exact ⟨rfl, v', h2, k2, g2⟩
end

/-- What Begin answers. -/
def RetBegin (Z : Nat → Prop) (w : World) (s age : Nat) (T : Tab) (e : Ending) (w' : World) : Prop := ∃ c m, e = .returned (.pointer (some ⟨c, 0, none⟩)) ∧ Chg Z w' c s m (.slice none 0 0) [] T age false ∧ w.heap.size ≤ c ∧ w.heap.size ≤ m ∧ Keeps Non w w'

set_option maxHeartbeats 4000000 in
theorem begin_any (Z : Nat → Prop) (s b m age : Nat) (T : Tab) (w : World) (hs : StA w s b m age) (h : TabW Z w m T) (hz : ∀ k, Z k → k < w.heap.size) :
    Calls Try.prog 57 #[.pointer (some ⟨s, 0, none⟩)] w (RetBegin Z w s age T) := by
  obtain ⟨c0, c1, c2⟩ := trio hs.st
  obtain ⟨es, ⟨xs, clock, hm, hfit⟩, hal⟩ := h.ex
  have hcon := AnyW.maps_Clone Try.cloneTab m xs clock w.drew (show w.drew.heap[m]? = _ from hm)
  change Calls Try.prog 92 _ _ _ at hcon
  have hk : Keeps Non w (w.drew.alloc (.map xs clock)) := ((Keeps.refl _ _).drew).alloc _
  have hT : TabW Z (w.drew.alloc (.map xs clock)) w.heap.size T := ⟨⟨es, ⟨xs, clock, heap_new w.drew _, hfit⟩, hal.mono fun _ _ q => q.keep hk fun _ q => q.elim⟩, h.rise⟩
  have e1 := hk.cell c1 id
  have e2 := hk.cell c2 id
  have HC := Lib.hid hcon
  have HT := Lib.hid hT
  have hrise := h.rise
  clear hcon hT h hal hfit hm hs
  go_enter Try.func57, Try.ntmps57
  go_wp2_with fail
  go_region_held3 (fun w' => w'.cell? ⟨s, 1, none⟩ = some (.map (some m)) ∧ w'.cell? ⟨s, 2, none⟩ = some (.int .i64 (age : Int))) (first | exact ⟨c1, c2⟩ | exact ⟨by simpa using c1, by simpa using c2⟩ | exact ⟨e1, e2⟩ | exact ⟨((Keeps.refl Non _).alloc _).cell e1 id, ((Keeps.refl Non _).alloc _).cell e2 id⟩) (first
    | (go_at_call 92; refine HC.out.mono ?_; rintro e w6 ⟨rfl, rfl⟩))
  all_goals
    go_wp2_with fail
    go_ret
    have k7 : Keeps Non (w.drew.alloc (.map xs clock)) ((w.drew.alloc (.map xs clock)).alloc (.cells #[.pointer (some ⟨s, 0, none⟩), .map (some w.heap.size), .slice none 0 0, .int .i64 (age : Int), .bool false] 143)) := (Keeps.refl _ _).alloc _
    have b7 := heap_new (w.drew.alloc (.map xs clock)) (.cells #[.pointer (some ⟨s, 0, none⟩), .map (some w.heap.size), .slice none 0 0, .int .i64 (age : Int), .bool false] 143)
    have z7 : (w.drew.alloc (.map xs clock)).heap.size = w.heap.size + 1 := by simp
    rw [z7] at b7
    have hT7 : TabW (fun k => Z k ∨ (Value.slice none 0 0).ownBlock = some k) ((w.drew.alloc (.map xs clock)).alloc (.cells #[.pointer (some ⟨s, 0, none⟩), .map (some w.heap.size), .slice none 0 0, .int .i64 (age : Int), .bool false] 143)) w.heap.size T := (HT.out.keepN k7).grow fun k q => by
      rcases q with q | q
      · exact .inl q
      · simp [Value.ownBlock] at q
    exact ⟨w.heap.size + 1, w.heap.size, rfl, ⟨b7, hT7, ⟨[], StepsAt.nil _ _⟩, fun q => by have := hz _ q; omega, fun q => by have := hz _ q; omega, fun g hg => by simp [Value.ownBlock] at hg⟩, by omega, Nat.le_refl _, hk.trans k7⟩
end Go.Proofs.Ytbmamhcjbhnkiaa
