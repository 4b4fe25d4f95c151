/- Layer 9, plain: values by keys, changes, and their bytes. No Go in it. -/
import Derived.Test.YtbmamhcjbhnkiaaGreatKwp
import Derived.WideAt
import Derived.WideShapes
import GoSem.ClaimWide
namespace Go.Proofs.YtbmamhcjbhnkiaaGreat

namespace Kv
abbrev Bs := List UInt8
abbrev Tab := List (Bs × Bs)

theorem before_eq : ∀ (x y : Bs), bytesBefore x y = decide (x < y)
  | [], [] => by simp [bytesBefore]
  | _ :: _, [] => by simp [bytesBefore]
  | [], _ :: _ => by simp [bytesBefore]
  | a :: x, b :: y => by
    rw [bytesBefore, before_eq x y]
    by_cases h : a < b
    · simp [h, List.cons_lt_cons_iff]
    · by_cases he : a = b
      · subst he; simp
      · simp [h, he, List.cons_lt_cons_iff]

theorem lt_irr (a : Bs) : ¬ a < a := List.lt_irrefl a
theorem lt_tr {a b c : Bs} (h : a < b) (k : b < c) : a < c := List.lt_trans h k
theorem lt_ne {a b : Bs} (h : a < b) : a ≠ b := fun e => lt_irr b (e ▸ h)
theorem lt_or {a b : Bs} (h : ¬ a < b) (hne : a ≠ b) : b < a := by
  rcases WideAt.bytes_total a b hne with q | q
  · rw [before_eq] at q; exact absurd (by simpa using q) h
  · rw [before_eq] at q; simpa using q

/-- The keys rise. -/
def Rise (T : Tab) : Prop := T.Pairwise fun p q => p.1 < q.1

def ins (x : Bs × Bs) : Tab → Tab
  | [] => [x]
  | y :: r => if x.1 < y.1 then x :: y :: r else y :: ins x r
def del (T : Tab) (k : Bs) : Tab := T.filter fun p => !decide (p.1 = k)
def put (T : Tab) (k v : Bs) : Tab := ins (k, v) (del T k)
def get (T : Tab) (k : Bs) : Option Bs := (T.find? fun p => decide (p.1 = k)).map (·.2)

theorem mem_ins {x p : Bs × Bs} : ∀ {T : Tab}, p ∈ ins x T ↔ p = x ∨ p ∈ T
  | [] => by simp [ins]
  | y :: r => by
    unfold ins
    split
    · simp
    · simp only [List.mem_cons, mem_ins (T := r)]
      constructor <;> rintro (h | h | h) <;> simp [h]
theorem length_ins (x : Bs × Bs) : ∀ T : Tab, (ins x T).length = T.length + 1
  | [] => rfl
  | y :: r => by
    unfold ins
    split
    · rfl
    · simp [length_ins x r]
theorem Rise.ins {x : Bs × Bs} : ∀ {T : Tab}, Rise T → (∀ p ∈ T, p.1 ≠ x.1) → Rise (ins x T)
  | [], _, _ => by simp [Kv.ins, Rise]
  | y :: r, h, hn => by
    obtain ⟨h1, h2⟩ := List.pairwise_cons.1 h
    unfold Kv.ins
    split
    · rename_i hlt
      refine List.pairwise_cons.2 ⟨fun p hp => ?_, h⟩
      rcases List.mem_cons.1 hp with rfl | hp
      · exact hlt
      · exact lt_tr hlt (h1 p hp)
    · rename_i hlt
      refine List.pairwise_cons.2 ⟨fun p hp => ?_, Rise.ins h2 fun p hp => hn p (by simp [hp])⟩
      rcases mem_ins.1 hp with rfl | hp
      · exact lt_or hlt (fun e => hn y (by simp) e.symm)
      · exact h1 p hp
theorem Rise.del {T : Tab} (h : Rise T) (k : Bs) : Rise (del T k) := List.Pairwise.filter _ h
theorem mem_del {T : Tab} {k : Bs} {p : Bs × Bs} : p ∈ del T k ↔ p ∈ T ∧ p.1 ≠ k := by simp [del]
theorem Rise.put {T : Tab} (h : Rise T) (k v : Bs) : Rise (put T k v) := (h.del k).ins fun _ hp => (mem_del.1 hp).2
theorem mem_put {T : Tab} {k v : Bs} {p : Bs × Bs} : p ∈ put T k v ↔ p = (k, v) ∨ (p ∈ T ∧ p.1 ≠ k) := by rw [put, mem_ins, mem_del]

theorem get_some {T : Tab} (h : Rise T) {k v : Bs} : get T k = some v ↔ (k, v) ∈ T := by
  induction T with
  | nil => simp [get]
  | cons y r ih =>
    obtain ⟨h1, h2⟩ := List.pairwise_cons.1 h
    have ih := ih h2
    unfold get at ih ⊢
    by_cases e : y.1 = k
    · rw [List.find?_cons_of_pos (by simpa using e)]
      simp only [Option.map_some, Option.some.injEq, List.mem_cons]
      constructor
      · rintro rfl; left; rw [← e]
      · rintro (q | q)
        · rw [← q]
        · exact absurd e (fun e => lt_irr _ (e ▸ h1 _ q))
    · rw [List.find?_cons_of_neg (by simpa using e), ih]
      simp only [List.mem_cons]
      constructor
      · exact .inr
      · rintro (q | q)
        · exact absurd (by rw [← q]) e
        · exact q
theorem get_none {T : Tab} {k : Bs} : get T k = none ↔ ∀ p ∈ T, p.1 ≠ k := by simp [get]

/-- Two rising lists with the same members are one. -/
theorem rise_ext : ∀ {S T : Tab}, Rise S → Rise T → (∀ p, p ∈ S ↔ p ∈ T) → S = T
  | [], [], _, _, _ => rfl
  | [], b :: s, _, _, h => by have := (h b).2 (by simp); simp at this
  | a :: r, [], _, _, h => by have := (h a).1 (by simp); simp at this
  | a :: r, b :: s, h1, h2, h => by
    obtain ⟨a1, a2⟩ := List.pairwise_cons.1 h1
    obtain ⟨b1, b2⟩ := List.pairwise_cons.1 h2
    have hab : a = b := by
      rcases List.mem_cons.1 ((h a).1 (by simp)) with e | ha
      · exact e
      · rcases List.mem_cons.1 ((h b).2 (by simp)) with e | hb
        · exact e.symm
        · exact absurd (lt_tr (a1 b hb) (b1 a ha)) (lt_irr _)
    subst hab
    congr 1
    refine rise_ext a2 b2 fun p => ⟨fun hp => ?_, fun hp => ?_⟩
    · rcases List.mem_cons.1 ((h p).1 (by simp [hp])) with e | hp'
      · subst e; exact absurd (a1 p hp) (lt_irr _)
      · exact hp'
    · rcases List.mem_cons.1 ((h p).2 (by simp [hp])) with e | hp'
      · subst e; exact absurd (b1 p hp) (lt_irr _)
      · exact hp'

/-! ### the steps of a change -/
/-- A step: d: is it a drop? -/
structure St where
  d : Bool
  k : Bs
  v : Bs
def St.ok (p : St) : Prop := 1 ≤ p.k.length ∧ p.k.length ≤ 128 ∧ p.v.length ≤ 4096 ∧ (p.d = true → p.v = [])
def do1 (T : Tab) (p : St) : Tab := if p.d then del T p.k else put T p.k p.v
def doAll (T : Tab) (l : List St) : Tab := l.foldl do1 T
theorem Rise.do1 {T : Tab} (h : Rise T) (p : St) : Rise (do1 T p) := by unfold Kv.do1; split; exact h.del _; exact h.put _ _
theorem Rise.doAll : ∀ {l : List St} {T : Tab}, Rise T → Rise (doAll T l)
  | [], _, h => h
  | p :: l, _, h => Rise.doAll (l := l) (h.do1 p)
theorem doAll_snoc (T : Tab) (l : List St) (p : St) : doAll T (l ++ [p]) = do1 (doAll T l) p := by simp [doAll]

/-- A step's bytes. -/
def enc (p : St) : Bs := (if p.d then (2 : UInt8) else 1) :: UInt8.ofNat p.k.length :: (p.k ++ if p.d then [] else UInt8.ofNat (p.v.length / 256) :: UInt8.ofNat p.v.length :: p.v)
def encAll (l : List St) : Bs := (l.map enc).flatten
theorem encAll_snoc (l : List St) (p : St) : encAll (l ++ [p]) = encAll l ++ enc p := by simp [encAll]
theorem encAll_cons (l : List St) (p : St) : encAll (p :: l) = enc p ++ encAll l := by simp [encAll]
theorem enc_length (p : St) : (enc p).length = 2 + p.k.length + if p.d then 0 else 2 + p.v.length := by
  unfold enc; cases p.d <;> simp <;> omega
theorem enc_le (p : St) : (enc p).length ≤ 4 + p.k.length + p.v.length := by rw [enc_length]; cases p.d <;> simp <;> omega

/-- How many bytes all of it takes, a step for each key. -/
def tsize (T : Tab) : Nat := (T.map fun p => 4 + p.1.length + p.2.length).sum
theorem tsize_cons (p : Bs × Bs) (T : Tab) : tsize (p :: T) = 4 + p.1.length + p.2.length + tsize T := by simp [tsize]
theorem tsize_del (T : Tab) (k : Bs) : tsize (del T k) ≤ tsize T := by
  induction T with
  | nil => simp [del, tsize]
  | cons y r ih =>
    unfold del at ih ⊢
    rw [List.filter_cons]
    split
    · rw [tsize_cons, tsize_cons]; omega
    · rw [tsize_cons]; omega
theorem tsize_ins (x : Bs × Bs) : ∀ T : Tab, tsize (ins x T) = 4 + x.1.length + x.2.length + tsize T
  | [] => by simp [ins, tsize]
  | y :: r => by
    unfold ins
    split
    · rw [tsize_cons]
    · rw [tsize_cons, tsize_cons, tsize_ins x r]; omega
theorem tsize_put (T : Tab) (k v : Bs) : tsize (put T k v) ≤ tsize T + (4 + k.length + v.length) := by
  have := tsize_del T k
  rw [put, tsize_ins]; show 4 + k.length + v.length + _ ≤ _; omega
theorem tsize_do1 (T : Tab) (p : St) : tsize (do1 T p) ≤ tsize T + (enc p).length := by
  have h1 := tsize_del T p.k
  have h2 := tsize_put T p.k p.v
  unfold do1
  rw [enc_length]
  cases p.d <;> simp <;> omega
theorem tsize_doAll : ∀ (l : List St) (T : Tab), tsize (doAll T l) ≤ tsize T + (encAll l).length
  | [], T => by simp [doAll, encAll]
  | p :: l, T => by
    have h1 := tsize_doAll l (do1 T p)
    have h2 := tsize_do1 T p
    rw [encAll_cons, List.length_append]
    exact Nat.le_trans h1 (by omega)

/-- What a disk's records say. -/
def Says (R : List Bs) (T : Tab) : Prop := ∃ ss : List (List St), R = ss.map encAll ∧ (∀ l ∈ ss, ∀ p ∈ l, p.ok) ∧ ss.foldl doAll [] = T
theorem Says.nil : Says [] [] := ⟨[], rfl, by simp, rfl⟩
theorem foldl_rise : ∀ {ss : List (List St)} {T : Tab}, Rise T → Rise (ss.foldl doAll T)
  | [], _, h => h
  | l :: ss, _, h => foldl_rise (ss := ss) (Rise.doAll (l := l) h)
theorem Says.rise {R : List Bs} {T : Tab} (h : Says R T) : Rise T := by
  obtain ⟨ss, _, _, rfl⟩ := h
  exact foldl_rise (by simp [Rise])
theorem Says.add {R : List Bs} {T : Tab} (h : Says R T) {l : List St} (hl : ∀ p ∈ l, p.ok) : Says (R ++ [encAll l]) (doAll T l) := by
  obtain ⟨ss, rfl, h1, rfl⟩ := h
  refine ⟨ss ++ [l], by simp, fun k hk => ?_, by simp⟩
  rcases List.mem_append.1 hk with q | q
  · exact h1 k q
  · simp at q; subst q; exact hl
theorem foldl_tsize : ∀ (ss : List (List St)) (T : Tab), tsize (ss.foldl doAll T) ≤ tsize T + Wal.cost (ss.map encAll)
  | [], T => by simp
  | l :: ss, T => by
    have h1 := foldl_tsize ss (doAll T l)
    have h2 := tsize_doAll l T
    simp only [List.foldl_cons, List.map_cons, Wal.cost]
    omega
theorem Says.tsize {R : List Bs} {T : Tab} (h : Says R T) : tsize T ≤ Wal.cost R := by
  obtain ⟨ss, rfl, _, rfl⟩ := h
  have := foldl_tsize ss []
  simpa [Kv.tsize] using this

/-- The steps that make all of a table. -/
def puts (T : Tab) : List St := T.map fun p => ⟨false, p.1, p.2⟩
theorem encAll_puts (T : Tab) : (encAll (puts T)).length = tsize T := by
  induction T with
  | nil => rfl
  | cons y r ih =>
    rw [tsize_cons, ← ih]
    simp only [puts, List.map_cons, encAll_cons, List.length_append, enc_length]
    simp; omega
theorem ins_last {x : Bs × Bs} : ∀ {T : Tab}, (∀ p ∈ T, p.1 < x.1) → ins x T = T ++ [x]
  | [], _ => rfl
  | y :: r, h => by
    have hy := h y (by simp)
    unfold ins
    rw [if_neg (fun q => lt_irr _ (lt_tr q hy)), ins_last fun p hp => h p (by simp [hp])]
    rfl
theorem del_none {T : Tab} {k : Bs} (h : ∀ p ∈ T, p.1 ≠ k) : del T k = T := List.filter_eq_self.2 fun p hp => by simpa using h p hp
theorem doAll_puts : ∀ (T A : Tab), Rise (A ++ T) → doAll A (puts T) = A ++ T
  | [], A, _ => by simp [doAll, puts]
  | p :: T, A, h => by
    have ha : ∀ q ∈ A, q.1 < p.1 := fun q hq => (List.pairwise_append.1 h).2.2 q hq p (by simp)
    have h1 : do1 A ⟨false, p.1, p.2⟩ = A ++ [p] := by
      show put A p.1 p.2 = _
      rw [put, del_none fun q hq => lt_ne (ha q hq)]
      exact ins_last ha
    have := doAll_puts T (A ++ [p]) (by simpa using h)
    simp only [puts, List.map_cons, doAll, List.foldl_cons, h1]
    simpa [puts, doAll] using this

/-- The records of all that is there, where one is enough. -/
def whole (T : Tab) : List Bs := if T = [] then [] else [encAll (puts T)]
def Ok (T : Tab) : Prop := ∀ p ∈ T, 1 ≤ p.1.length ∧ p.1.length ≤ 128 ∧ p.2.length ≤ 4096
theorem Ok.del {T : Tab} (h : Ok T) (k : Bs) : Ok (del T k) := fun p hp => h p (mem_del.1 hp).1
theorem Ok.put {T : Tab} (h : Ok T) {k v : Bs} (h1 : 1 ≤ k.length) (h2 : k.length ≤ 128) (h3 : v.length ≤ 4096) : Ok (put T k v) := fun p hp => by
  rcases mem_put.1 hp with rfl | ⟨hp, _⟩
  · exact ⟨h1, h2, h3⟩
  · exact h p hp
theorem Ok.do1 {T : Tab} (h : Ok T) {p : St} (hp : p.ok) : Ok (do1 T p) := by
  unfold Kv.do1; split
  · exact h.del _
  · exact h.put hp.1 hp.2.1 hp.2.2.1
theorem Ok.doAll : ∀ {l : List St} {T : Tab}, Ok T → (∀ p ∈ l, p.ok) → Ok (doAll T l)
  | [], _, h, _ => h
  | p :: l, _, h, hl => Ok.doAll (l := l) (h.do1 (hl p (by simp))) fun q hq => hl q (by simp [hq])
theorem foldl_ok : ∀ {ss : List (List St)} {T : Tab}, Ok T → (∀ l ∈ ss, ∀ p ∈ l, p.ok) → Ok (ss.foldl doAll T)
  | [], _, h, _ => h
  | l :: ss, _, h, hl => foldl_ok (ss := ss) (Ok.doAll h (hl l (by simp))) fun q hq => hl q (by simp [hq])
theorem Says.ok {R : List Bs} {T : Tab} (h : Says R T) : Ok T := by
  obtain ⟨ss, _, h1, rfl⟩ := h
  exact foldl_ok (fun p hp => by simp at hp) h1
theorem Ok.puts {T : Tab} (h : Ok T) : ∀ p ∈ puts T, p.ok := fun p hp => by
  obtain ⟨q, hq, rfl⟩ := List.mem_map.1 hp
  obtain ⟨h1, h2, h3⟩ := h q hq
  exact ⟨h1, h2, h3, fun e => by cases e⟩
theorem whole_says {T : Tab} (h : Rise T) (ho : Ok T) : Says (whole T) T := by
  unfold whole
  split
  · rename_i e; subst e; exact .nil
  · exact ⟨[puts T], rfl, by simpa using ho.puts, by simpa using doAll_puts T [] (by simpa using h)⟩
theorem whole_cost (T : Tab) : Wal.cost (whole T) = if T = [] then 0 else 9 + tsize T := by
  unfold whole
  split
  · rfl
  · simp [Wal.cost, encAll_puts]
theorem tsize_pos {T : Tab} (h : T ≠ []) : 1 ≤ tsize T := by
  cases T with
  | nil => exact absurd rfl h
  | cons y r => rw [tsize_cons]; omega
theorem whole_fit {T : Tab} (h : tsize T ≤ 65536) : ∀ b ∈ whole T, Wal.Fit b := by
  unfold whole
  split
  · simp
  · rename_i e
    intro b hb
    simp at hb; subst hb
    have := tsize_pos e
    exact ⟨by rw [encAll_puts]; exact this, by rw [encAll_puts]; exact h⟩

/-! ### the reference's lists -/
theorem less_eq : ∀ (x y : Bs), Op.bytesLess x y = decide (x < y)
  | [], [] => by simp [Op.bytesLess]
  | _ :: _, [] => by simp [Op.bytesLess]
  | [], _ :: _ => by simp [Op.bytesLess]
  | a :: x, b :: y => by
    rw [Op.bytesLess, less_eq x y]
    by_cases h : a < b
    · simp [h, List.cons_lt_cons_iff]
    · by_cases he : a = b
      · subst he; simp
      · simp [h, he, List.cons_lt_cons_iff]
/-- One round of the reference's Put: what it lays, and whether it is done. -/
def rdone (k : Bs) (y : Bs × Bs) (done : Bool) : Bool := done || !decide (y.1 < k)
def rlay (k v : Bs) (y : Bs × Bs) (done : Bool) : Tab := (if !done && !decide (y.1 < k) then [(k, v)] else []) ++ (if y.1 = k then [] else [y])
def rput (k v : Bs) : Tab → Bool → Tab
  | [], done => if done then [] else [(k, v)]
  | y :: r, done => rlay k v y done ++ rput k v r (rdone k y done)
theorem rput_done (k v : Bs) : ∀ T : Tab, rput k v T true = del T k
  | [] => rfl
  | y :: r => by
    have := rput_done k v r
    simp only [rput, rlay, rdone, Bool.true_or, this, del, List.filter_cons]
    by_cases e : y.1 = k <;> simp [e]
theorem rput_eq (k v : Bs) : ∀ {T : Tab}, Rise T → rput k v T false = put T k v
  | [], _ => rfl
  | y :: r, h => by
    obtain ⟨h1, h2⟩ := List.pairwise_cons.1 h
    have ih := rput_eq k v h2
    by_cases hlt : y.1 < k
    · have hne : y.1 ≠ k := lt_ne hlt
      have h3 : ¬ k < y.1 := fun q => lt_irr _ (lt_tr q hlt)
      simp only [rput, rlay, rdone, hlt, put, del, List.filter_cons]
      simp [hne, ins, h3]
      exact ih
    · simp only [rput, rlay, rdone, hlt, decide_false, Bool.not_false, Bool.false_or, Bool.and_self, if_true, rput_done]
      by_cases e : y.1 = k
      · have hd : del (y :: r) k = r := by
          rw [del, List.filter_cons, if_neg (by simp [e])]
          exact del_none fun p hp => fun q => lt_irr _ (by have := h1 p hp; rw [e, q] at this; exact this)
        have hdr : del r k = r := del_none fun p hp => fun q => lt_irr _ (by have := h1 p hp; rw [e, q] at this; exact this)
        rw [put, hd, hdr, if_pos e]
        cases r with
        | nil => rfl
        | cons z s =>
          have : k < z.1 := by have := h1 z (by simp); rwa [e] at this
          simp [ins, this]
      · have hk : k < y.1 := lt_or hlt e
        have hdr : del r k = r := del_none fun p hp => fun q => lt_irr _ (by have := lt_tr hk (h1 p hp); rw [q] at this; exact this)
        have hd : del (y :: r) k = y :: r := by
          rw [del, List.filter_cons, if_pos (by simp [e])]
          exact congrArg _ hdr
        rw [put, hd, hdr, if_neg e]
        simp [ins, hk]
/-- The reference's Cost, where one record is enough. -/
def rcost (T : Tab) : Nat := if T = [] then 0 else 9 + tsize T
theorem tsize_take_succ {T : Tab} {i : Nat} {p : Bs × Bs} (h : T[i]? = some p) : tsize (T.take (i + 1)) = tsize (T.take i) + (4 + p.1.length + p.2.length) := by
  obtain ⟨hi, e⟩ := List.getElem?_eq_some_iff.1 h
  rw [List.take_succ_eq_append_getElem hi, e]
  simp [tsize]
theorem tsize_take_le (T : Tab) (i : Nat) : tsize (T.take i) ≤ tsize T := by
  have h : tsize (T.take i ++ T.drop i) = tsize (T.take i) + tsize (T.drop i) := by simp only [tsize, List.map_append, List.sum_append]
  rw [List.take_append_drop] at h
  omega
def pre (s : Bs) (T : Tab) : Tab := T.filter fun p => s.isPrefixOf p.1
theorem pre_nil (T : Tab) : pre [] T = T := List.filter_eq_self.2 fun p _ => by simp
end Kv
end Go.Proofs.YtbmamhcjbhnkiaaGreat
