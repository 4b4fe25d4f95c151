/- Layer 9: a table in memory: a map whose keys are strings, whose elements are slices of bytes that nobody writes. -/
import Derived.Test.YtbmamhcjbhnkiaaKzp
import Derived.Test.YtbmamhcjbhnkiaaKw
import Derived.Maps.RangeWalk
import Derived.Maps.Ext
import Derived.Test.YtbmamhcjbhnkiaaProg
import Derived.Test.YtbmamhcjbhnkiaaKi
import Derived.Lib.ConvBytes
namespace Go.Proofs.Ytbmamhcjbhnkiaa
open Go.RowKit Go.Maps
open Kv (Bs Tab Rise)

/-- A goal at which the walk is to stand still: 'go_wp2_with (at_builtin; refine hold_it ?_)', then 'refine let_go ?_'. -/
def Held (p : Prop) : Prop := p
theorem hold_it {p : Prop} (h : Held p) : p := h
theorem let_go {p : Prop} (h : p) : Held p := h

/-- A string's value. -/
abbrev sv (l : Bs) : Value := .string ⟨l.toArray⟩
theorem sv_inj {a b : Bs} (h : sv a = sv b) : a = b := by simpa [sv] using h
theorem key_sv {P : Program} {k : TypeId} (hk : P.underlying k = some .string) {l : Bs} (h : l.length ≤ maxLen) : keyOf P k (sv l) = some (.string l) := WideMaps.keyOf_string_mk hk (s := ⟨l.toArray⟩) h
theorem key_inv {P : Program} {k : TypeId} (hk : P.underlying k = some .string) {v : Value} {kl : Lit} (h : keyOf P k v = some kl) : ∃ l : Bs, v = sv l ∧ kl = .string l ∧ l.length ≤ maxLen := by
  obtain ⟨s, rfl, rfl, h3⟩ := WideMaps.string_of_keyOf hk h
  exact ⟨s.data.toList, rfl, rfl, h3⟩

/-- An element, as it lies in its cell. -/
def slR (v : Value) : Option (DataW Value × List MemPlace) := match v with
  | .slice _ _ _ => some (.held v, [])
  | _ => none
theorem slR_mk (A : Option Addr) (n c : Nat) : slR (.slice A n c) = some (.held (.slice A n c), []) := rfl
theorem slR_inv {v : Value} {y : DataW Value × List MemPlace} (h : slR v = some y) : ∃ s : Option Addr × Nat × Nat, v = .slice s.1 s.2.1 s.2.2 ∧ y = (.held v, []) := by
  cases v <;> simp [slR] at h
  subst h
  exact ⟨(_, _, _), rfl, rfl⟩

/-- Two lists, member by member. -/
def Al {α β : Type} (R : α → β → Prop) : List α → List β → Prop
  | [], [] => True
  | a :: r, b :: s => R a b ∧ Al R r s
  | _, _ => False
theorem Al.length {α β : Type} {R : α → β → Prop} : ∀ {l : List α} {k : List β}, Al R l k → l.length = k.length
  | [], [], _ => rfl
  | _ :: _, _ :: _, h => by simp [Al.length h.2]
  | [], _ :: _, h => h.elim
  | _ :: _, [], h => h.elim
theorem Al.mono {α β : Type} {R S : α → β → Prop} (hs : ∀ a b, R a b → S a b) : ∀ {l : List α} {k : List β}, Al R l k → Al S l k
  | [], [], _ => trivial
  | a :: r, b :: s, h => ⟨hs _ _ h.1, Al.mono hs h.2⟩
  | [], _ :: _, h => h.elim
  | _ :: _, [], h => h.elim
theorem Al.mem {α β : Type} {R : α → β → Prop} : ∀ {l : List α} {k : List β}, Al R l k → ∀ a ∈ l, ∃ b ∈ k, R a b
  | [], [], _, a, h => by simp at h
  | x :: r, y :: s, h, a, ha => by
    rcases List.mem_cons.1 ha with rfl | ha
    · exact ⟨y, by simp, h.1⟩
    · obtain ⟨b, hb, hr⟩ := Al.mem h.2 a ha
      exact ⟨b, by simp [hb], hr⟩
  | [], _ :: _, h, _, _ => h.elim
  | _ :: _, [], h, _, _ => h.elim
theorem Al.mem' {α β : Type} {R : α → β → Prop} : ∀ {l : List α} {k : List β}, Al R l k → ∀ b ∈ k, ∃ a ∈ l, R a b
  | [], [], _, a, h => by simp at h
  | x :: r, y :: s, h, a, ha => by
    rcases List.mem_cons.1 ha with rfl | ha
    · exact ⟨x, by simp, h.1⟩
    · obtain ⟨b, hb, hr⟩ := Al.mem' h.2 a ha
      exact ⟨b, by simp [hb], hr⟩
  | [], _ :: _, h, _, _ => h.elim
  | _ :: _, [], h, _, _ => h.elim

/-- What a slice of bytes is good for that nobody writes: it lies in no block of Z. -/
structure SlZ (Z : Nat → Prop) (w : World) (A : Option Addr) (n c : Nat) (l : Bs) : Prop where
  rd : RdB w A n l
  nc : n ≤ c
  cm : c ≤ 9223372036854775807
  out : 0 < n → ∀ a, A = some a → ¬ Z a.block
theorem SlZ.keep {Z S : Nat → Prop} {w w' : World} {A : Option Addr} {n c : Nat} {l : Bs} (h : SlZ Z w A n c l) (hk : Keeps S w w') (hS : ∀ k, S k → Z k) : SlZ Z w' A n c l :=
  ⟨h.rd.keep hk fun h0 a ha hs => h.out h0 a ha (hS _ hs), h.nc, h.cm, h.out⟩
theorem SlZ.grow {Z Z' : Nat → Prop} {w : World} {A : Option Addr} {n c : Nat} {l : Bs} (h : SlZ Z w A n c l) (hz : ∀ k, Z' k → Z k ∨ w.heap.size ≤ k) : SlZ Z' w A n c l :=
  ⟨h.rd, h.nc, h.cm, fun h0 a ha hs => by
    rcases hz _ hs with q | q
    · exact h.out h0 a ha q
    · have := h.rd.old h0 a ha; omega⟩
theorem SlZ.nil (Z : Nat → Prop) (w : World) : SlZ Z w none 0 0 [] := ⟨RdB.nil w none, Nat.le_refl _, by decide, fun h => absurd h (by decide)⟩

/-- An entry of the map, and what it stands for. -/
structure Ent (Z : Nat → Prop) (w : World) (e : Lit × DataW Value) (p : Bs × Bs) : Prop where
  key : e.1 = .string p.1
  val : ∃ A n c, e.2 = .held (.slice A n c) ∧ SlZ Z w A n c p.2
theorem Ent.keep {Z S : Nat → Prop} {w w' : World} {e : Lit × DataW Value} {p : Bs × Bs} (h : Ent Z w e p) (hk : Keeps S w w') (hS : ∀ k, S k → Z k) : Ent Z w' e p := by
  obtain ⟨A, n, c, h1, h2⟩ := h.val
  exact ⟨h.key, A, n, c, h1, h2.keep hk hS⟩
theorem Ent.grow {Z Z' : Nat → Prop} {w : World} {e : Lit × DataW Value} {p : Bs × Bs} (h : Ent Z w e p) (hz : ∀ k, Z' k → Z k ∨ w.heap.size ≤ k) : Ent Z' w e p := by
  obtain ⟨A, n, c, h1, h2⟩ := h.val
  exact ⟨h.key, A, n, c, h1, h2.grow hz⟩

theorem Al.insert {Z : Nat → Prop} {w : World} {x : Lit × DataW Value} {y : Bs × Bs} (hxy : Ent Z w x y) : ∀ {es : List (Lit × DataW Value)} {T : Tab}, Al (Ent Z w) es T → Al (Ent Z w) (DataW.insert x es) (Kv.ins y T)
  | [], [], _ => ⟨hxy, trivial⟩
  | a :: r, b :: s, h => by
    have hb : x.1.before a.1 = decide (y.1 < b.1) := by rw [hxy.key, h.1.key]; exact Kv.before_eq _ _
    unfold DataW.insert Kv.ins
    rw [hb]
    by_cases hlt : y.1 < b.1
    · simp only [hlt, decide_true, if_true]; exact ⟨hxy, h⟩
    · simp only [hlt, decide_false, if_false, Bool.false_eq_true]; exact ⟨h.1, Al.insert hxy h.2⟩
  | [], _ :: _, h => h.elim
  | _ :: _, [], h => h.elim
theorem same_key (a b : Bs) : (Lit.string a).sameKey (.string b) = decide (a = b) := by
  show (a == b) = _
  by_cases h : a = b <;> simp [h]
theorem Al.del {Z : Nat → Prop} {w : World} (k : Bs) : ∀ {es : List (Lit × DataW Value)} {T : Tab}, Al (Ent Z w) es T → Al (Ent Z w) (es.filter fun p => !p.1.sameKey (.string k)) (Kv.del T k)
  | [], [], _ => trivial
  | a :: r, b :: s, h => by
    have hb : (!a.1.sameKey (.string k)) = !decide (b.1 = k) := by rw [h.1.key, same_key]
    unfold Kv.del
    rw [List.filter_cons, List.filter_cons, hb]
    have := Al.del k h.2
    unfold Kv.del at this
    by_cases e : b.1 = k
    · simp only [e, decide_true, Bool.not_true, if_false, Bool.false_eq_true]; exact this
    · simp only [e, decide_false, Bool.not_false, if_true]; exact ⟨h.1, this⟩
  | [], _ :: _, h => h.elim
  | _ :: _, [], h => h.elim
theorem Al.find {Z : Nat → Prop} {w : World} (k : Bs) : ∀ {es : List (Lit × DataW Value)} {T : Tab}, Al (Ent Z w) es T →
    (Kv.get T k = none ∧ es.find? (fun p => p.1.sameKey (.string k)) = none) ∨ ∃ l A n c, Kv.get T k = some l ∧ (∃ e : Lit × DataW Value, es.find? (fun p => p.1.sameKey (.string k)) = some e ∧ e.2 = .held (.slice A n c)) ∧ SlZ Z w A n c l
  | [], [], _ => .inl ⟨rfl, rfl⟩
  | a :: r, b :: s, h => by
    have hb : a.1.sameKey (.string k) = decide (b.1 = k) := by rw [h.1.key, same_key]
    by_cases e : b.1 = k
    · obtain ⟨A, n, c, h1, h2⟩ := h.1.val
      exact .inr ⟨b.2, A, n, c, by simp [Kv.get, e], ⟨a, by simp [hb, e], h1⟩, h2⟩
    · have hn : Kv.get (b :: s) k = Kv.get s k := by simp [Kv.get, e]
      have hf : (a :: r).find? (fun p => p.1.sameKey (.string k)) = r.find? (fun p => p.1.sameKey (.string k)) := by simp [hb, e]
      rw [hn, hf]
      exact Al.find k h.2
  | [], _ :: _, h => h.elim
  | _ :: _, [], h => h.elim

/-- Block m is a map that holds this table; its values lie in no block of Z. -/
structure TabAt (P : Program) (k : TypeId) (Z : Nat → Prop) (w : World) (m : Nat) (T : Tab) : Prop where
  ex : ∃ es, w.ownsMap P k slR m T.length (.map es) ∧ Al (Ent Z w) es T
  rise : Rise T

section
variable {P : Program} {k : TypeId} {Z : Nat → Prop} {w : World} {m : Nat} {T : Tab}
theorem TabAt.lt (h : TabAt P k Z w m T) : m < w.heap.size := by obtain ⟨es, h1, _⟩ := h.ex; exact h1.lt
theorem TabAt.keep {S : Nat → Prop} {w' : World} (h : TabAt P k Z w m T) (hk : Keeps S w w') (hm : ¬ S m) (hS : ∀ k, S k → Z k) : TabAt P k Z w' m T := by
  obtain ⟨es, ⟨xs, clock, h1, h2⟩, h3⟩ := h.ex
  exact ⟨⟨es, ⟨xs, clock, hk.at_ h1 hm, h2⟩, h3.mono fun _ _ q => q.keep hk hS⟩, h.rise⟩
theorem TabAt.keepN {w' : World} (h : TabAt P k Z w m T) (hk : Keeps Non w w') : TabAt P k Z w' m T := h.keep hk id fun _ q => q.elim
theorem TabAt.grow {Z' : Nat → Prop} (h : TabAt P k Z w m T) (hz : ∀ k, Z' k → Z k ∨ w.heap.size ≤ k) : TabAt P k Z' w m T := by
  obtain ⟨es, h1, h2⟩ := h.ex
  exact ⟨⟨es, h1, h2.mono fun _ _ q => q.grow hz⟩, h.rise⟩
theorem TabAt.map (h : TabAt P k Z w m T) : ∃ es clock, w.heap[m]? = some (.map es clock) := by
  obtain ⟨es, ⟨xs, clock, h1, _⟩, _⟩ := h.ex
  exact ⟨xs, clock, h1⟩
/-- Bytes don't lie in a map. -/
theorem RdB.not_map {es : Array MapEntry} {clock : Nat} (hm : w.heap[m]? = some (.map es clock)) {A : Option Addr} {n : Nat} {l : List UInt8} (h : RdB w A n l) (h0 : 0 < n) (a : Addr) (ha : A = some a) : a.block ≠ m := by
  obtain ⟨b, off, e, hc⟩ := h.cells h0
  rw [e] at ha
  cases ha
  have hl : 0 < l.length := by rw [h.len]; exact h0
  have hx := hc 0 _ (List.getElem?_eq_getElem hl)
  rintro rfl
  simp [World.cell?, hm] at hx
theorem TabAt.made (P : Program) (k : TypeId) (Z : Nat → Prop) (w : World) : TabAt P k Z (w.alloc (.map #[] 0)) w.heap.size [] := ⟨⟨[], World.ownsMap_made w P k slR, trivial⟩, by simp [Rise]⟩
/-- The bound on a map's entries is its table's length. -/
theorem own_len {n : Nat} {es : List (Lit × DataW Value)} (h : w.ownsMap P k slR m n (.map es)) : w.ownsMap P k slR m es.length (.map es) := by
  obtain ⟨xs, clock, h1, h2, h3, h4⟩ := h
  refine ⟨xs, clock, h1, h2, ?_, h4⟩
  cases h4
  rw [length_sorted]
  simp

theorem mapTurned_keeps {w' : World} (h : w.mapTurned w' m) : Keeps (fun k => k = m) w w' := (Keeps.of_grown h.grown).mono fun _ _ q => by simpa using q

theorem Ent.turned {w' : World} {es : Array MapEntry} {clock : Nat} (hm : w.heap[m]? = some (.map es clock)) (hk : Keeps (fun k => k = m) w w') {e : Lit × DataW Value} {p : Bs × Bs} (h : Ent Z w e p) : Ent Z w' e p := by
  obtain ⟨A, n, c, h1, h2⟩ := h.val
  exact ⟨h.key, A, n, c, h1, h2.rd.keep hk (fun h0 a ha => h2.rd.not_map hm h0 a ha), h2.nc, h2.cm, h2.out⟩

theorem TabAt.put {t e : TypeId} (hT : P.underlying k = some .string) (ht : P.underlying t = some (.map k e)) (h : TabAt P k Z w m T) (hn : T.length < maxLen) {key : Bs} (hkl : key.length ≤ maxLen) {A : Option Addr} {n c : Nat} {l : Bs} (hv : SlZ Z w A n c l) :
    ∃ w', (Instr.mapUpdate t (.map (some m)) (sv key) (.slice A n c)).run P w = .ok () w' ∧ TabAt P k Z w' m (Kv.put T key l) ∧ Keeps (fun k => k = m) w w' := by
  obtain ⟨es, h1, h2⟩ := h.ex
  obtain ⟨xs, clock, hm, _⟩ := id h1
  obtain ⟨w', hrun, hown, hturn⟩ := h1.store (string_keyed hT) ht hn (key_sv hT hkl) (slR_mk A n c)
  have hk := mapTurned_keeps hturn
  have hal : Al (Ent Z w) (DataW.insert (.string key, .held (.slice A n c)) (es.filter fun p => !p.1.sameKey (.string key))) (Kv.put T key l) := (h2.del key).insert ⟨rfl, A, n, c, rfl, hv⟩
  refine ⟨w', hrun, ⟨⟨_, ?_, hal.mono fun _ _ q => q.turned hm hk⟩, h.rise.put key l⟩, hk⟩
  rw [← hal.length]
  exact own_len hown
theorem TabAt.del {t e : TypeId} (hT : P.underlying k = some .string) (ht : P.underlying t = some (.map k e)) (h : TabAt P k Z w m T) {key : Bs} (hkl : key.length ≤ maxLen) (ty : TypeId) :
    ∃ w', (Builtin.delete_ #[t, k] ty #[.map (some m), sv key]).run P w = .ok (.tuple #[]) w' ∧ TabAt P k Z w' m (Kv.del T key) ∧ Keeps (fun k => k = m) w w' := by
  obtain ⟨es, h1, h2⟩ := h.ex
  obtain ⟨xs, clock, hm, _⟩ := id h1
  obtain ⟨w', hrun, hown, hturn⟩ := h1.drop (string_keyed hT) ht (key_sv hT hkl) ty
  have hk := mapTurned_keeps hturn
  have hal := h2.del key
  refine ⟨w', hrun, ⟨⟨_, ?_, hal.mono fun _ _ q => q.turned hm hk⟩, h.rise.del key⟩, hk⟩
  rw [← hal.length]
  exact own_len hown
/-- A look-up: what is told. -/
def Told (Z : Nat → Prop) (w : World) (T : Tab) (key : Bs) (A : Option Addr) (n c : Nat) : Prop := SlZ Z w A n c ((Kv.get T key).getD [])
theorem TabAt.look {t e : TypeId} (hT : P.underlying k = some .string) (ht : P.underlying t = some (.map k e)) (hz : (zeroValue e).run P w = .ok (.slice none 0 0) w) (h : TabAt P k Z w m T) {key : Bs} (hkl : key.length ≤ maxLen) :
    ∃ A n c, (Instr.lookup t (.map (some m)) (sv key) true).run P w = .ok (.tuple #[.slice A n c, .bool (Kv.get T key).isSome]) w ∧ Told Z w T key A n c := by
  obtain ⟨es, h1, h2⟩ := h.ex
  obtain ⟨v, ps, hrun, hv⟩ := h1.look_ok (string_keyed hT) ht hz (slR_mk none 0 0) (key_sv hT hkl)
  unfold Told
  rcases h2.find key with ⟨q1, q2⟩ | ⟨l, A, n, c, q1, ⟨e0, q2, q3⟩, q4⟩
  · have hh : has (.map es) (.string key) = false := by
      rw [has_eq, List.any_eq_false]
      intro p hp
      have := List.find?_eq_none.1 q2 p hp
      simpa using this
    have ha : (DataW.map es).atKey (.string key) (.held (.slice none 0 0)) = .held (.slice none 0 0) := by simp [DataW.atKey, q2]
    rw [ha] at hv
    obtain ⟨s, rfl, hs⟩ := slR_inv hv
    simp only [Prod.mk.injEq, DataW.held.injEq] at hs
    rw [hh, ← hs.1] at hrun
    rw [q1]
    exact ⟨none, 0, 0, hrun, SlZ.nil _ _⟩
  · have hh : has (.map es) (.string key) = true := by
      rw [has_eq, List.any_eq_true]
      exact ⟨e0, List.mem_of_find?_eq_some q2, by simpa using List.find?_some q2⟩
    have ha : (DataW.map es).atKey (.string key) (.held (.slice none 0 0)) = .held (.slice A n c) := by simp [DataW.atKey, q2, q3]
    rw [ha] at hv
    obtain ⟨s, rfl, hs⟩ := slR_inv hv
    simp only [Prod.mk.injEq, DataW.held.injEq] at hs
    rw [hh, ← hs.1] at hrun
    rw [q1]
    exact ⟨A, n, c, hrun, q4⟩
theorem TabAt.len {t e : TypeId} (ht : P.underlying t = some (.map k e)) (h : TabAt P k Z w m T) (ty : TypeId) : (Builtin.len_ #[t] ty #[.map (some m)]).run P w = .ok (.int .i64 (T.length : Int)) w := by
  obtain ⟨es, h1, h2⟩ := h.ex
  have := h1.len ht ty
  rw [size_eq, h2.length] at this
  exact this

/-- A range over a table is under way: these are done. -/
def TabR (P : Program) (k : TypeId) (Z : Nat → Prop) (w : World) (m r : Nat) (T done : Tab) (cnt : Nat) : Prop :=
  ∃ es left, w.ranges P k slR m r T.length (.map es) left cnt ∧ Al (Ent Z w) es T ∧ Rise T ∧ done.Pairwise (fun p q => p.1 ≠ q.1) ∧ ∀ p, p ∈ done ↔ p ∈ T ∧ left (.string p.1) = false
theorem TabR.tab {r cnt : Nat} {done : Tab} (h : TabR P k Z w m r T done cnt) : TabAt P k Z w m T := by
  obtain ⟨es, left, h1, h2, h3, _⟩ := h
  exact ⟨⟨es, h1.owns, h2⟩, h3⟩
theorem TabR.left_eq {r cnt : Nat} {done : Tab} (h : TabR P k Z w m r T done cnt) : w.rangeLeft m r = cnt := by
  obtain ⟨es, left, h1, _⟩ := h
  exact h1.left_eq
theorem TabR.keep {r cnt : Nat} {done : Tab} {S : Nat → Prop} {w' : World} (h : TabR P k Z w m r T done cnt) (hk : Keeps S w w') (hm : ¬ S m) (hr : ¬ S r) (hS : ∀ k, S k → Z k) : TabR P k Z w' m r T done cnt := by
  obtain ⟨es, left, ⟨xs, clock, since, seen, c0, h1, h2, h3, h4, h5, h6⟩, q⟩ := h
  exact ⟨es, left, ⟨xs, clock, since, seen, c0, hk.at_ h1 hm, h2, h3, h4, hk.at_ h5 hr, h6⟩, q.1.mono (fun _ _ q => q.keep hk hS), q.2⟩
theorem TabR.keepN {r cnt : Nat} {done : Tab} {w' : World} (h : TabR P k Z w m r T done cnt) (hk : Keeps Non w w') : TabR P k Z w' m r T done cnt := h.keep hk id id fun _ q => q.elim
theorem TabR.keep_row {r cnt : Nat} {done : Tab} {S : Nat → Prop} {w' : World} (h : TabR P k Z w m r T done cnt) (hk : Keeps S w w') (hS : ∀ i, S i → i ≠ m ∧ i ≠ r ∧ Z i) : TabR P k Z w' m r T done cnt :=
  h.keep hk (fun q => (hS _ q).1 rfl) (fun q => (hS _ q).2.1 rfl) fun i q => (hS i q).2.2
theorem TabR.iter {r cnt : Nat} {done : Tab} (h : TabR P k Z w m r T done cnt) : ∃ since seen c0, w.heap[r]? = some (.mapIter (some m) since seen c0) := by
  obtain ⟨es, left, ⟨xs, clock, since, seen, c0, h1, h2, h3, h4, h5, h6⟩, q⟩ := h
  exact ⟨_, _, _, h5⟩
theorem TabR.lt {r cnt : Nat} {done : Tab} (h : TabR P k Z w m r T done cnt) : r < w.heap.size ∧ m < w.heap.size := by
  obtain ⟨es, left, h1, _⟩ := h
  exact ⟨h1.lt, h1.owns.lt⟩
/-- Bytes don't lie in an iterator. -/
theorem RdB.not_iter {m' : Option Nat} {r since c0 : Nat} {seen : Array Nat} (hm : w.heap[r]? = some (.mapIter m' since seen c0)) {A : Option Addr} {n : Nat} {l : List UInt8} (h : RdB w A n l) (h0 : 0 < n) (a : Addr) (ha : A = some a) : a.block ≠ r := by
  obtain ⟨b, off, e, hc⟩ := h.cells h0
  rw [e] at ha
  cases ha
  have hl : 0 < l.length := by rw [h.len]; exact h0
  have hx := hc 0 _ (List.getElem?_eq_getElem hl)
  rintro rfl
  simp [World.cell?, hm] at hx

theorem has_of_al {es : List (Lit × DataW Value)} (h2 : Al (Ent Z w) es T) {p : Bs × Bs} (hp : p ∈ T) : has (.map es) (.string p.1) = true := by
  obtain ⟨a, ha, hR⟩ := h2.mem' p hp
  rw [has_eq, List.any_eq_true]
  exact ⟨a, ha, by rw [hR.key, same_key]; simp⟩
theorem TabAt.range {t e : TypeId} (hT : P.underlying k = some .string) (ht : P.underlying t = some (.map k e)) (h : TabAt P k Z w m T) :
    ∃ w', (Instr.range t (.map (some m))).run P w = .ok (.pointer (some ⟨w.heap.size, 0, none⟩)) w' ∧ TabR P k Z w' m w.heap.size T [] T.length ∧ Keeps Non w w' ∧ w'.heap.size = w.heap.size + 1 := by
  obtain ⟨es, h1, h2⟩ := h.ex
  obtain ⟨w', hrun, q1, q2, q3⟩ := h1.range (string_keyed hT) ht
  rw [size_eq, h2.length] at q1
  have hk : Keeps Non w w' := Keeps.none_grown q2
  refine ⟨w', hrun, ⟨es, _, q1, h2.mono fun _ _ q => q.keep hk fun _ q => q.elim, h.rise, List.Pairwise.nil, fun p => ⟨fun q => by simp at q, fun ⟨q, q'⟩ => ?_⟩⟩, hk, q3⟩
  rw [has_of_al h2 q] at q'
  cases q'
theorem TabR.next {r cnt : Nat} {done : Tab} (hT : P.underlying k = some .string) (h : TabR P k Z w m r T done cnt) (ty : TypeId) :
    (cnt = 0 ∧ done.Perm T ∧ (Instr.next (.pointer (some ⟨r, 0, none⟩)) false ty).run P w = .ok (.tuple #[.bool false]) w) ∨
    ∃ key l A n c w' cnt', (key, l) ∈ T ∧ (∀ p ∈ done, p.1 ≠ key) ∧ key.length ≤ maxLen ∧ SlZ Z w' A n c l ∧ (Instr.next (.pointer (some ⟨r, 0, none⟩)) false ty).run P w = .ok (.tuple #[.bool true, sv key, .slice A n c]) w' ∧
      TabR P k Z w' m r T (done ++ [(key, l)]) cnt' ∧ cnt' < cnt ∧ Keeps (fun i => i = r) w w' ∧ w'.heap.size = w.heap.size ∧ (Instr.entry (.pointer (some ⟨r, 0, none⟩))).run P w' = .ok (.tuple #[sv key, .slice A n c]) w' := by
  obtain ⟨es, left, h1, h2, h3, h4, h5⟩ := h
  obtain ⟨xs, clock, since, seen, c0, _, _, _, _, hit, _⟩ := id h1
  rcases h1.next (string_keyed hT) ty with ⟨q1, q2, q3⟩ | ⟨key, v, kl, y, w', cnt', hkey, hlk, hv, hat, hrun, hrg, hlt, hgr, hsz, hen⟩
  · refine .inl ⟨q1, ?_, q3⟩
    have hTn : T.Nodup := h3.imp fun {a b} q e => by subst e; exact Kv.lt_irr _ q
    have hdn : done.Nodup := h4.imp fun {a b} q e => q (by rw [e])
    exact (List.perm_ext_iff_of_nodup hdn hTn).2 fun p => by rw [h5 p, q2]; simp
  · obtain ⟨x, rfl, rfl, hxl⟩ := key_inv hT hkey
    obtain ⟨s, rfl, rfl⟩ := slR_inv hv
    have hk : Keeps (fun i => i = r) w w' := (Keeps.of_grown hgr).mono fun _ _ q => by simpa using q
    have hkE : ∀ {e : Lit × DataW Value} {p : Bs × Bs}, Ent Z w e p → Ent Z w' e p := fun {e p} hE => by
      obtain ⟨A, n, c, g1, g2⟩ := hE.val
      exact ⟨hE.key, A, n, c, g1, g2.rd.keep hk (fun h0 a ha => g2.rd.not_iter hit h0 a ha), g2.nc, g2.cm, g2.out⟩
    rcases h2.find x with ⟨g1, g2⟩ | ⟨l, A, n, c, g1, ⟨e0, g2, g3⟩, g4⟩
    · have b1 := hat (.lit (.bool true))
      simp [DataW.atKey, g2] at b1
    · have hE := hat .nil
      have he2 : (DataW.map es).atKey (.string x) .nil = .held (.slice A n c) := by simp [DataW.atKey, g2, g3]
      rw [he2] at hE
      simp only [DataW.held.injEq] at hE
      have hmem : (x, l) ∈ T := (Kv.get_some h3).1 g1
      have hnd : ∀ p ∈ done, p.1 ≠ x := fun p hp e => by
        have := ((h5 p).1 hp).2
        rw [e, hlk] at this
        cases this
      rw [← hE] at hrun hen
      refine .inr ⟨x, l, A, n, c, w', cnt', hmem, hnd, hxl, ?_, hrun, ⟨es, _, hrg, h2.mono fun _ _ q => hkE q, h3, ?_, fun p => ?_⟩, hlt, hk, hsz, hen⟩
      · exact ⟨g4.rd.keep hk (fun h0 a ha => g4.rd.not_iter hit h0 a ha), g4.nc, g4.cm, g4.out⟩
      · rw [List.pairwise_append]
        exact ⟨h4, by simp, fun a ha b hb => by simp at hb; subst hb; exact hnd a ha⟩
      · rw [List.mem_append, h5 p, same_key]
        constructor
        · rintro (⟨q1, q2⟩ | q)
          · exact ⟨q1, by rw [q2]; rfl⟩
          · simp at q; subst q; exact ⟨hmem, by simp⟩
        · rintro ⟨q1, q2⟩
          cases hl : left (.string p.1) with
          | false => exact .inl ⟨q1, rfl⟩
          | true =>
            rw [hl] at q2
            have e : p.1 = x := by simpa using q2
            have : p.2 = l := by
              have w1 := (Kv.get_some h3).2 (show (x, p.2) ∈ T by rw [← e]; exact q1)
              rw [g1] at w1
              simpa using w1.symm
            exact .inr (by simp [← e, ← this])
end

/-! ### at the operation, for the walk -/
section
variable {P : Program} (w : World) {ops : Array Oper} {rest : List Oper} {o : Oper} {a : Act} {Q : Exit → Act → World → Prop}
theorem wp_tab_look (hg : o.guard = none) (mo x : Operand) (t : TypeId) (hop : o.op = Op.lookup t mo x true) (k e : TypeId) (Z : Nat → Prop) (m : Nat) (T : Tab)
    (hT : P.underlying k = some .string) (ht : P.underlying t = some (.map k e)) (hz : (zeroValue e).run P w = .ok (.slice none 0 0) w)
    (hm : a.eval mo = .map (some m)) (h : TabAt P k Z w m T) (key : Bs) (hx : a.eval x = sv key) (hkl : key.length ≤ maxLen)
    (hK : ∀ A n c, Told Z w T key A n c → wpList P ops Q rest (a.put o.dst (.tuple #[.slice A n c, .bool (Kv.get T key).isSome])) w) :
    wpList P ops Q (o :: rest) a w := by
  refine wpList_plain hg fun K' hK' => ?_
  obtain ⟨A, n, c, hrun, hv⟩ := h.look hT ht hz hkl
  unfold Oper.wp
  simp [execOp, hop, hm, hx, hrun, Result.andThen]
  exact hK' _ _ (hK A n c hv)
theorem wp_tab_put (hg : o.guard = none) (mo x v : Operand) (t : TypeId) (hop : o.op = Op.mapUpdate t mo x v) (k e : TypeId) (Z : Nat → Prop) (m : Nat) (T : Tab)
    (hT : P.underlying k = some .string) (ht : P.underlying t = some (.map k e))
    (hm : a.eval mo = .map (some m)) (h : TabAt P k Z w m T) (hn : T.length < maxLen) (key : Bs) (hx : a.eval x = sv key) (hkl : key.length ≤ maxLen) (A : Option Addr) (n c : Nat) (l : Bs) (hv : a.eval v = .slice A n c) (hs : SlZ Z w A n c l)
    (hK : ∀ w', TabAt P k Z w' m (Kv.put T key l) → Keeps (fun k => k = m) w w' → wpList P ops Q rest (a.put o.dst undef) w') :
    wpList P ops Q (o :: rest) a w := by
  refine wpList_plain hg fun K' hK' => ?_
  obtain ⟨w', hrun, h1, h2⟩ := h.put hT ht hn hkl hs
  unfold Oper.wp
  simp [execOp, hop, hm, hx, hv, hrun, Result.andThen]
  exact hK' _ _ (hK w' h1 h2)
theorem wp_tab_del (hg : o.guard = none) (mo x : Operand) (t k : TypeId) (hop : o.op = Op.call { callee := Callee.builtin Builtin.delete, args := #[mo, x], argTypes := #[t, k] }) (e : TypeId) (Z : Nat → Prop) (m : Nat) (T : Tab)
    (hT : P.underlying k = some .string) (ht : P.underlying t = some (.map k e))
    (hm : a.eval mo = .map (some m)) (h : TabAt P k Z w m T) (key : Bs) (hx : a.eval x = sv key) (hkl : key.length ≤ maxLen)
    (hK : ∀ w', TabAt P k Z w' m (Kv.del T key) → Keeps (fun k => k = m) w w' → wpList P ops Q rest (a.put o.dst (.tuple #[])) w') :
    wpList P ops Q (o :: rest) a w := by
  refine wpList_plain hg fun K' hK' => ?_
  obtain ⟨w', hrun, h1, h2⟩ := h.del hT ht hkl o.type
  unfold Oper.wp
  simp [execOp, hop, resolve, invoke, builtin, hm, hx, hrun, Result.andThen]
  exact hK' _ _ (hK w' h1 h2)
theorem wp_tab_len (hg : o.guard = none) (mo : Operand) (t : TypeId) (hop : o.op = Op.call { callee := Callee.builtin Builtin.len, args := #[mo], argTypes := #[t] }) (k e : TypeId) (Z : Nat → Prop) (m : Nat) (T : Tab)
    (ht : P.underlying t = some (.map k e)) (hm : a.eval mo = .map (some m)) (h : TabAt P k Z w m T)
    (hK : wpList P ops Q rest (a.put o.dst (.int .i64 (T.length : Int))) w) :
    wpList P ops Q (o :: rest) a w := by
  refine wpList_plain hg fun K' hK' => ?_
  unfold Oper.wp
  simp [execOp, hop, resolve, invoke, builtin, hm, h.len ht o.type, Result.andThen]
  exact hK' _ _ hK
theorem wp_tab_range (hg : o.guard = none) (mo : Operand) (t : TypeId) (hop : o.op = Op.range t mo) (k e : TypeId) (Z : Nat → Prop) (m : Nat) (T : Tab)
    (hT : P.underlying k = some .string) (ht : P.underlying t = some (.map k e)) (hm : a.eval mo = .map (some m)) (h : TabAt P k Z w m T)
    (hK : ∀ w', TabR P k Z w' m w.heap.size T [] T.length → Keeps Non w w' → w'.heap.size = w.heap.size + 1 → wpList P ops Q rest (a.put o.dst (.pointer (some ⟨w.heap.size, 0, none⟩))) w') :
    wpList P ops Q (o :: rest) a w := by
  refine wpList_plain hg fun K' hK' => ?_
  obtain ⟨w', hrun, r1, r2, r3⟩ := h.range hT ht
  unfold Oper.wp
  simp [execOp, hop, hm, hrun, Result.andThen]
  exact hK' _ _ (hK w' r1 r2 r3)
theorem wp_tab_next (hg : o.guard = none) (it : Operand) (hop : o.op = Op.next it false) (k : TypeId) (Z : Nat → Prop) (m r : Nat) (T done : Tab) (cnt : Nat)
    (hT : P.underlying k = some .string) (hit : a.eval it = .pointer (some ⟨r, 0, none⟩)) (h : TabR P k Z w m r T done cnt)
    (hDone : cnt = 0 → done.Perm T → wpList P ops Q rest (a.put o.dst (.tuple #[.bool false])) w)
    (hMore : ∀ key l A n c w' cnt', (key, l) ∈ T → (∀ p ∈ done, p.1 ≠ key) → key.length ≤ maxLen → SlZ Z w' A n c l → TabR P k Z w' m r T (done ++ [(key, l)]) cnt' → cnt' < cnt → Keeps (fun i => i = r) w w' → w'.heap.size = w.heap.size →
      (Instr.entry (.pointer (some ⟨r, 0, none⟩))).run P w' = .ok (.tuple #[sv key, .slice A n c]) w' → wpList P ops Q rest (a.put o.dst (.tuple #[.bool true, sv key, .slice A n c])) w') :
    wpList P ops Q (o :: rest) a w := by
  refine wpList_plain hg fun K' hK' => ?_
  unfold Oper.wp
  rcases h.next hT o.type with ⟨h0, hl, hrun⟩ | ⟨key, l, A, n, c, w', cnt', h1, h2, h3, h4, hrun, h5, h6, h7, h8, h9⟩
  · simp [execOp, hop, hit, hrun, Result.andThen]
    exact hK' _ _ (hDone h0 hl)
  · simp [execOp, hop, hit, hrun, Result.andThen]
    exact hK' _ _ (hMore key l A n c w' cnt' h1 h2 h3 h4 h5 h6 h7 h8 h9)
end
end Go.Proofs.Ytbmamhcjbhnkiaa

/- Layer 9: strings that came in; a string's bytes in a row of their own. -/
namespace Go.Proofs.Ytbmamhcjbhnkiaa
open Go.RowKit
open Kv (Bs Tab)

/-- A slice of strings that came in. -/
structure IsStrs (w : World) (a : Option Addr) (len cap : Nat) (S : List Bs) : Prop where
  hlen : S.length = len
  le : len ≤ cap
  cm : cap ≤ 9223372036854775807
  fit : ∀ s ∈ S, s.length ≤ maxLen
  cells : 0 < len → ∃ b off, a = some ⟨b, off, none⟩ ∧ b < w.heap.size ∧ ∀ (j : Nat) (s : Bs), S[j]? = some s → w.cell? ⟨b, off + j, none⟩ = some (sv s)
theorem IsStrs.at_ {w : World} {a : Option Addr} {len cap : Nat} {S : List Bs} (h : IsStrs w a len cap S) {j : Nat} (hj : j < len) :
    ∃ b off s, a = some ⟨b, off, none⟩ ∧ S[j]? = some s ∧ w.cell? ⟨b, off + j, none⟩ = some (sv s) := by
  obtain ⟨b, off, e, hl, hc⟩ := h.cells (by omega)
  have hl' : j < S.length := by rw [h.hlen]; exact hj
  exact ⟨b, off, S[j], e, List.getElem?_eq_getElem hl', hc j _ (List.getElem?_eq_getElem hl')⟩
theorem IsStrs.keepN {w w' : World} {a : Option Addr} {len cap : Nat} {S : List Bs} (h : IsStrs w a len cap S) (hk : Keeps Non w w') : IsStrs w' a len cap S :=
  ⟨h.hlen, h.le, h.cm, h.fit, fun h0 => by
    obtain ⟨b, off, e, hl, hc⟩ := h.cells h0
    exact ⟨b, off, e, Nat.lt_of_lt_of_le hl hk.size, fun j s hs => hk.cell (hc j s hs) id⟩⟩

/-- A slice of steps (a Boolean and two strings each) that came in. -/
structure IsSteps (w : World) (a : Option Addr) (len cap : Nat) (Q : List Kv.St) : Prop where
  hlen : Q.length = len
  le : len ≤ cap
  cm : cap ≤ 9223372036854775807
  fit : ∀ p ∈ Q, p.k.length ≤ maxLen ∧ p.v.length ≤ maxLen
  cells : 0 < len → ∃ b off, a = some ⟨b, off, none⟩ ∧ b < w.heap.size ∧ ∀ (j : Nat) (p : Kv.St), Q[j]? = some p → w.cell? ⟨b, off + j * 3, none⟩ = some (.bool p.d) ∧ w.cell? ⟨b, off + j * 3 + 1, none⟩ = some (sv p.k) ∧ w.cell? ⟨b, off + j * 3 + 2, none⟩ = some (sv p.v)

theorem str_of (s : ByteArray) : ∃ x : Bs, (Value.string s) = sv x ∧ x.length = s.size := ⟨s.data.toList, by simp [sv], by simp⟩

/-- A string's bytes, in a row of their own. -/
theorem conv_sb (x : Bs) (hx : x.length ≤ 140737488355328) (w : World) : ∃ A c w', (convert 9 22 (sv x)).run Try.prog w = .ok (.slice A x.length c) w' ∧ RdB w' A x.length x ∧ Keeps Non w w' := by
  have hsz : (⟨x.toArray⟩ : ByteArray).size = x.length := by simp [ByteArray.size]
  refine ⟨some ⟨w.heap.size, 0, none⟩, grownCap w x.length 0 5, Lib.bytesWorld w 5 ⟨x.toArray⟩, ?_, ⟨rfl, hx, fun _ => ⟨_, 0, rfl, fun j u hu => ?_⟩⟩, ⟨rfl, rfl, rfl, by rw [Lib.bytesWorld_size]; omega, fun k hk _ => Lib.bytesWorld_at_old w _ _ k hk⟩⟩
  · have := Lib.run_convert_string_bytes (P := Try.prog) w 9 22 5 ⟨x.toArray⟩ Try.underlying9 Try.underlying22 Try.underlying5
    rw [hsz] at this
    exact this
  · have hj : j < x.length := (List.getElem?_eq_some_iff.1 hu).1
    rw [Nat.zero_add, Lib.bytesWorld_cell w _ _ j (by rw [hsz]; exact hj)]
    simp only [bv, List.getD_eq_getElem?_getD, hu, Option.getD_some]
end Go.Proofs.Ytbmamhcjbhnkiaa
