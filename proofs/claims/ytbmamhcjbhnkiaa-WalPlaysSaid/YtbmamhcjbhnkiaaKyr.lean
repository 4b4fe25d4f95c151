/- Layer 8: rows of rows as a source, at a step of a region that draws its order. -/
import Derived.Test.YtbmamhcjbhnkiaaKyq
namespace Go.Proofs.Ytbmamhcjbhnkiaa
open Go.RowKit

section
variable {P : Program} {w : World}
/-- append of any source, at a step of a region that draws. -/
theorem step_append_src {ops : Array Oper} {o : Oper} {a : Act} {K : Act → World → Prop} {Q : Exit → Act → World → Prop} {E : Prop} (hgd : o.guard = none) (s x : Operand) (t tx : TypeId)
    (ho : o.op = .call { callee := .builtin .append, args := #[s, x], argTypes := #[t, tx] })
    (base : Nat) (e : TypeId) (i : TypeInfo) (z : Value) (size bytes : Nat) (ht : P.underlying t = some (.slice e)) (hi : P.info? e = some i) (hz : i.zero = some z)
    (hsize : i.size = size) (hby : i.bytes = bytes) (hzs : z.cells.size = size) (hsz : 0 < size)
    (v : Value) (n : Nat) (xs : List Value) (hs : a.eval s = v) (hown : w.ownsRow base e size v n xs)
    (xv : Value) (m : Nat) (news : List Value) (hx : a.eval x = xv) (hsrc : Src P size tx xv m news w)
    (h63 : n + m ≤ maxLen) (hbytes : (n + m) * bytes ≤ 140737488355328) (hbase : base ≤ w.heap.size)
    (h : ∀ v' w', w'.ownsRow base e size v' (n + m) (xs ++ news) → w.grownBy w' v.ownBlock → K (a.put o.dst v') w') :
    if Region.wanted o (yielded ops a.tmps) = true then Oper.wp P o a w K Q else E := by
  have hw : Region.wanted o (yielded ops a.tmps) = true := by simp [Region.wanted, hgd]
  rw [if_pos hw]
  obtain ⟨v', w', hrun, h1, h2, _⟩ := run_append_own_src (P := P) w base t tx o.type e i z size bytes ht hi hz hsize hby hzs hsz v n xs hown xv m news hsrc h63 hbytes hbase
  unfold Oper.wp
  simp [execOp, ho, resolve, invoke, builtin, hs, hx, hrun, Result.andThen]
  exact h v' w' h1 h2
end

theorem RdLZ.grow {Z Z' : Nat → Prop} {w : World} {A : Option Addr} {n : Nat} {ls : List (List UInt8)} (h : RdLZ Z w A n ls) (hz : ∀ k, Z' k → Z k ∨ w.heap.size ≤ k) : RdLZ Z' w A n ls :=
  ⟨h.len, h.le, fun h0 => by
    obtain ⟨b, off, e, hb, hc⟩ := h.cells h0
    have hlt : b < w.heap.size := by
      obtain ⟨Aj, nj, cj, h1, _⟩ := hc 0 _ (List.getElem?_eq_getElem (by rw [h.len]; exact h0))
      exact World.block_lt_of_cell? w _ h1
    refine ⟨b, off, e, fun q => by rcases hz b q with q | q; exact hb q; omega, fun j l hl => ?_⟩
    obtain ⟨Aj, nj, cj, h1, h2, h3, h4, h5⟩ := hc j l hl
    exact ⟨Aj, nj, cj, h1, h2, h3, h4, fun hn a ha q => by
      rcases hz _ q with q | q
      · exact h5 hn a ha q
      · have := h2.old hn a ha; omega⟩⟩
theorem RdLZ.nil (Z : Nat → Prop) (w : World) (A : Option Addr) : RdLZ Z w A 0 [] := ⟨rfl, by decide, fun h => absurd h (by decide)⟩

/-- The slices that such rows are. -/
theorem RdLZ.src {P : Program} {Z : Nat → Prop} {w : World} {tx e' : TypeId} (hk : P.underlying tx = some (.slice e')) {A : Option Addr} {n : Nat} {ls : List (List UInt8)} (h : RdLZ Z w A n ls) (c : Nat) :
    ∃ vs : List Value, vs.length = n ∧ Src P 1 tx (.slice A n c) n vs w ∧ ∀ (j : Nat) (x : List UInt8), ls[j]? = some x → ∃ Aj nj cj, vs[j]? = some (.slice Aj nj cj) ∧ RdB w Aj nj x ∧ nj ≤ cj ∧ cj ≤ 9223372036854775807 ∧ (0 < nj → ∀ a, Aj = some a → ¬ Z a.block) := by
  rcases Nat.eq_zero_or_pos n with h0 | h0
  · subst h0
    have hl : ls = [] := List.eq_nil_of_length_eq_zero h.len
    subst hl
    refine ⟨[], rfl, ?_, fun j x hx => by simp at hx⟩
    cases A with
    | none => exact Src.ofNil w hk c
    | some a => exact Src.ofSlice w hk a 0 c [] rfl (fun j u hu => by simp at hu) (fun u hu => by simp at hu)
  · obtain ⟨b, off, rfl, _, hc⟩ := h.cells h0
    have hget : ∀ j, j < n → ∃ Aj nj cj, w.cell? ⟨b, off + j, none⟩ = some (.slice Aj nj cj) := fun j hj => by
      obtain ⟨Aj, nj, cj, h1, _⟩ := hc j _ (List.getElem?_eq_getElem (by rw [h.len]; exact hj))
      exact ⟨Aj, nj, cj, h1⟩
    have hvs : ∀ j, j < n → ((List.range n).map fun j => (w.cell? ⟨b, off + j, none⟩).getD undef)[j]? = some ((w.cell? ⟨b, off + j, none⟩).getD undef) := fun j hj => by simp [hj]
    refine ⟨(List.range n).map fun j => (w.cell? ⟨b, off + j, none⟩).getD undef, by simp, ?_, ?_⟩
    · refine Src.ofSlice w hk _ n c _ (by simp) (fun j u hu => ?_) (fun u hu => ?_)
      · have hj : j < n := by have := (List.getElem?_eq_some_iff.1 hu).1; simpa using this
        rw [hvs j hj] at hu
        cases hu
        obtain ⟨Aj, nj, cj, h1⟩ := hget j hj
        rw [add_off, h1]; rfl
      · obtain ⟨j, hj, rfl⟩ := List.mem_map.1 hu
        obtain ⟨Aj, nj, cj, h1⟩ := hget j (List.mem_range.1 hj)
        rw [h1]; rfl
    · intro j x hx
      obtain ⟨Aj, nj, cj, h1, h2⟩ := hc j x hx
      have hj : j < n := by rw [← h.len]; exact (List.getElem?_eq_some_iff.1 hx).1
      exact ⟨Aj, nj, cj, by rw [hvs j hj, h1]; rfl, h2⟩

/-- A row of slices of one's own, read apart from some blocks. -/
theorem own_rdLZ {Z : Nat → Prop} {w : World} {base n : Nat} {e : TypeId} {v : Value} {vs : List Value} {ls : List (List UInt8)} (h : w.ownsRow base e 1 v n vs) (hn : ls.length = n) (hle : n ≤ 140737488355328) (hbase : ∀ k, base ≤ k → ¬ Z k)
    (hel : ∀ (j : Nat) (l : List UInt8), ls[j]? = some l → ∃ A m c, vs[j]? = some (.slice A m c) ∧ RdB w A m l ∧ m ≤ c ∧ c ≤ 9223372036854775807 ∧ (0 < m → ∀ a, A = some a → ¬ Z a.block)) :
    ∃ A c, v = .slice A n c ∧ RdLZ Z w A n ls ∧ n ≤ c ∧ c ≤ 9223372036854775807 := by
  rcases h.2 with ⟨rfl, h0⟩ | ⟨g, cap, cur, rfl, hg0, hg, hnc, hcm, hcs, htake⟩
  · subst h0
    have : ls = [] := List.eq_nil_of_length_eq_zero hn
    subst this
    exact ⟨none, 0, rfl, RdLZ.nil _ _ _, Nat.le_refl _, by omega⟩
  · refine ⟨_, cap, rfl, ⟨hn, hle, fun _ => ⟨g, 0, rfl, hbase g hg0, fun j l hl => ?_⟩⟩, hnc, by unfold maxLen at hcm; exact hcm⟩
    obtain ⟨A, m, c, h1, h2⟩ := hel j l hl
    refine ⟨A, m, c, ?_, h2⟩
    have hj : j < n := by rw [← hn]; exact (List.getElem?_eq_some_iff.1 hl).1
    simp only [World.cell?, hg, Option.isSome_none, Bool.false_eq_true, if_false, Nat.zero_add]
    have := congrArg (fun x => x[j]?) htake
    simp only [Nat.mul_one, List.getElem?_take, if_pos hj, h1, Array.getElem?_toList] at this
    exact this
theorem OwnL.rdLZ {Z : Nat → Prop} {w : World} {base : Nat} {v : Value} {vs : List Value} {ls : List (List UInt8)} (h : OwnL w base v vs ls) (hle : ls.length ≤ 140737488355328) (hb : ∀ x ∈ ls, x.length ≤ 140737488355328) (hbase : ∀ k, base ≤ k → ¬ Z k) :
    ∃ A c, v = .slice A ls.length c ∧ RdLZ Z w A ls.length ls ∧ ls.length ≤ c ∧ c ≤ 9223372036854775807 :=
  own_rdLZ h.row rfl hle hbase fun j l hl => by
    obtain ⟨u, h1, h2⟩ := h.el j l hl
    obtain ⟨A, c, rfl, hrd, hblk, hnc, hcm⟩ := own_rdB h2 (hb l (List.mem_of_getElem? hl))
    exact ⟨A, _, c, h1, hrd, hnc, hcm, fun _ a ha => hbase _ (own_ge h2 _ (hblk a ha))⟩
theorem alloc_cell {w : World} {a : Addr} {v : Value} (h : w.cell? a = some v) (o : Obj) : (w.alloc o).cell? a = some v := ((Keeps.refl Non w).alloc o).cell h id
end Go.Proofs.Ytbmamhcjbhnkiaa
