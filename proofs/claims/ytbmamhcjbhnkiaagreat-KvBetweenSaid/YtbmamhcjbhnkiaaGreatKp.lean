/- Plain laws of the checksum of layer 3, bit by bit on natural numbers: three sums of texts of one length; a text with bits turned. No Go in it. -/
namespace Go.Proofs.YtbmamhcjbhnkiaaGreat
namespace Crc

def poly : Nat := 3988292384
def ones : Nat := 4294967295
def step (n : Nat) : Nat := if n % 2 = 1 then (n / 2) ^^^ poly else n / 2
def steps : Nat → Nat → Nat
  | 0, n => n
  | k + 1, n => steps k (step n)
def byte (n : Nat) (c : UInt8) : Nat := steps 8 (n ^^^ c.toNat)
def run (n : Nat) (l : List UInt8) : Nat := l.foldl byte n
def sum (l : List UInt8) : Nat := ones - run ones l

theorem poly_lt : poly < 2 ^ 32 := by decide

theorem step_lt {n : Nat} (h : n < 2 ^ 32) : step n < 2 ^ 32 := by
  unfold step
  split
  · exact Nat.xor_lt_two_pow (by omega) poly_lt
  · omega

theorem steps_lt (k : Nat) : ∀ {n : Nat}, n < 2 ^ 32 → steps k n < 2 ^ 32 := by
  induction k with
  | zero => intro n h; exact h
  | succ k ih => intro n h; exact ih (step_lt h)

theorem byte_lt {n : Nat} (h : n < 2 ^ 32) (c : UInt8) : byte n c < 2 ^ 32 :=
  steps_lt 8 (Nat.xor_lt_two_pow h (by have := c.toNat_lt; omega))

theorem run_lt (l : List UInt8) : ∀ {n : Nat}, n < 2 ^ 32 → run n l < 2 ^ 32 := by
  induction l with
  | nil => intro n h; exact h
  | cons c l ih => intro n h; exact ih (byte_lt h c)

theorem run_append (n : Nat) (a b : List UInt8) : run n (a ++ b) = run (run n a) b := by simp [run]
theorem run_snoc (n : Nat) (a : List UInt8) (c : UInt8) : run n (a ++ [c]) = byte (run n a) c := by simp [run]

theorem div2 (n : Nat) : n / 2 = n >>> 1 := by rw [Nat.shiftRight_eq_div_pow]

theorem xor_mod2 (a b : Nat) : (a ^^^ b) % 2 = (a % 2 + b % 2) % 2 := by
  have h := Nat.testBit_xor (x := a) (y := b) (i := 0)
  simp only [Nat.testBit_zero] at h
  rcases Nat.mod_two_eq_zero_or_one a with ha | ha <;> rcases Nat.mod_two_eq_zero_or_one b with hb | hb <;> rcases Nat.mod_two_eq_zero_or_one (a ^^^ b) with hc | hc <;> simp_all

theorem xor_div2 (a b : Nat) : (a ^^^ b) / 2 = (a / 2) ^^^ (b / 2) := by
  rw [div2, div2, div2, Nat.shiftRight_xor_distrib]

theorem step_xor (a b : Nat) : step (a ^^^ b) = step a ^^^ step b := by
  unfold step
  rw [xor_mod2, xor_div2]
  rcases Nat.mod_two_eq_zero_or_one a with ha | ha <;> rcases Nat.mod_two_eq_zero_or_one b with hb | hb <;> simp [ha, hb]
  · rw [Nat.xor_assoc]
  · rw [Nat.xor_assoc, Nat.xor_assoc, Nat.xor_comm poly]
  · apply Nat.eq_of_testBit_eq
    intro i
    simp only [Nat.testBit_xor]
    cases (a / 2).testBit i <;> cases (b / 2).testBit i <;> cases poly.testBit i <;> rfl

theorem steps_xor (k : Nat) : ∀ a b : Nat, steps k (a ^^^ b) = steps k a ^^^ steps k b := by
  induction k with
  | zero => intro a b; rfl
  | succ k ih => intro a b; simp only [steps]; rw [step_xor, ih]

theorem steps_add (j k n : Nat) : steps (j + k) n = steps k (steps j n) := by
  induction j generalizing n with
  | zero => simp [steps]
  | succ j ih => rw [Nat.succ_add]; simp only [steps]; exact ih _

theorem step_zero {n : Nat} (hn : n < 2 ^ 32) (h : step n = 0) : n = 0 := by
  unfold step at h
  split at h
  · exfalso
    have hb := congrArg (fun x => Nat.testBit x 31) h
    simp only [Nat.testBit_xor, Nat.zero_testBit] at hb
    have h1 : (n / 2).testBit 31 = false := Nat.testBit_lt_two_pow (by omega)
    have h2 : poly.testBit 31 = true := by decide
    rw [h1, h2] at hb
    simp at hb
  · omega

theorem steps_zero (k : Nat) : ∀ {n : Nat}, n < 2 ^ 32 → steps k n = 0 → n = 0 := by
  induction k with
  | zero => intro n _ h; exact h
  | succ k ih => intro n hn h; exact step_zero hn (ih (step_lt hn) h)

theorem steps_of_zero (k : Nat) : steps k 0 = 0 := by
  induction k with
  | zero => rfl
  | succ k ih => simp only [steps]; simpa [step] using ih

/-! ### The three sums' xor -/
theorem xor_swap (a b c d : Nat) : (a ^^^ b) ^^^ (c ^^^ d) = (a ^^^ c) ^^^ (b ^^^ d) := by
  apply Nat.eq_of_testBit_eq
  intro i
  simp only [Nat.testBit_xor]
  cases a.testBit i <;> cases b.testBit i <;> cases c.testBit i <;> cases d.testBit i <;> rfl

theorem byte_xor (m n : Nat) (c d : UInt8) : byte (m ^^^ n) (c ^^^ d) = byte m c ^^^ byte n d := by
  unfold byte
  rw [UInt8.toNat_xor, xor_swap, steps_xor]

theorem run_xor : ∀ (a b : List UInt8) (m n : Nat), a.length = b.length → run (m ^^^ n) (List.zipWith (· ^^^ ·) a b) = run m a ^^^ run n b
  | [], [], _, _, _ => rfl
  | c :: a, d :: b, m, n, h => by
    simp only [List.zipWith, run, List.foldl_cons]
    rw [byte_xor]
    exact run_xor a b _ _ (by simpa using h)

theorem sum_eq (l : List UInt8) : sum l = run ones l ^^^ ones := by
  have h : run ones l < 2 ^ 32 := run_lt l (by decide)
  unfold sum
  apply Nat.eq_of_testBit_eq
  intro i
  have e : ones - run ones l = 2 ^ 32 - (run ones l + 1) := by show 4294967295 - _ = _; omega
  rw [e, Nat.testBit_two_pow_sub_succ h, Nat.testBit_xor]
  have ho : ones.testBit i = decide (i < 32) := by
    have : ones = 2 ^ 32 - 1 := by decide
    rw [this, Nat.testBit_two_pow_sub_one]
  rw [ho]
  by_cases hi : i < 32
  · simp [hi]
  · have : (run ones l).testBit i = false := Nat.testBit_lt_two_pow (Nat.lt_of_lt_of_le h (Nat.pow_le_pow_right (by decide) (by omega)))
    simp [hi, this]

theorem sum_lt (l : List UInt8) : sum l < 2 ^ 32 := by
  unfold sum
  show 4294967295 - _ < _
  omega

theorem sums_xor (a b c : List UInt8) (h1 : a.length = b.length) (h2 : a.length = c.length) :
    sum a ^^^ sum b ^^^ sum c = sum (List.zipWith (· ^^^ ·) (List.zipWith (· ^^^ ·) a b) c) := by
  rw [sum_eq, sum_eq, sum_eq, sum_eq]
  have e := run_xor a b ones ones h1
  have e2 := run_xor (List.zipWith (· ^^^ ·) a b) c (ones ^^^ ones) ones (by simp; omega)
  rw [e] at e2
  have e3 : ones ^^^ ones ^^^ ones = ones := by decide
  rw [e3] at e2
  rw [e2]
  apply Nat.eq_of_testBit_eq
  intro i
  simp only [Nat.testBit_xor]
  cases (run ones a).testBit i <;> cases (run ones b).testBit i <;> cases (run ones c).testBit i <;> cases ones.testBit i <;> rfl

end Crc
end Go.Proofs.YtbmamhcjbhnkiaaGreat
namespace Go.Proofs.YtbmamhcjbhnkiaaGreat
namespace Crc

/-- Bytes as one number, the first one lowest. -/
def num : List UInt8 → Nat
  | [] => 0
  | c :: l => c.toNat ^^^ (num l * 256)

theorem step_two (n : Nat) : step (2 * n) = n := by unfold step; rw [if_neg (by omega)]; omega
theorem steps_pow (k n : Nat) : steps k (n * 2 ^ k) = n := by
  induction k generalizing n with
  | zero => simp [steps]
  | succ k ih =>
    have e : n * 2 ^ (k + 1) = 2 * (n * 2 ^ k) := by rw [Nat.pow_succ, ← Nat.mul_assoc, Nat.mul_comm]
    simp only [steps]; rw [e, step_two, ih]

theorem run_num : ∀ (l : List UInt8) (n : Nat), run n l = steps (8 * l.length) (n ^^^ num l)
  | [], n => by simp [run, num, steps]
  | c :: l, n => by
    have h : run n (c :: l) = run (byte n c) l := rfl
    rw [h, run_num l]
    have e : 8 * (c :: l).length = 8 + 8 * l.length := by simp; omega
    rw [e, steps_add]
    congr 1
    show _ = steps 8 (n ^^^ (c.toNat ^^^ num l * 256))
    rw [← Nat.xor_assoc, steps_xor]
    have := steps_pow 8 (num l)
    simp only [Nat.reducePow] at this
    rw [this]; rfl

theorem num_zip : ∀ (a b : List UInt8), a.length = b.length → num (List.zipWith (· ^^^ ·) a b) = num a ^^^ num b
  | [], [], _ => rfl
  | c :: a, d :: b, h => by
    simp only [List.zipWith, num]
    rw [num_zip a b (by simpa using h), UInt8.toNat_xor]
    have e : (num a ^^^ num b) * 256 = num a * 256 ^^^ num b * 256 := by
      have := Nat.shiftLeft_xor_distrib (a := num a) (b := num b) (i := 8)
      simpa [Nat.shiftLeft_eq] using this
    rw [e, xor_swap]

/-- Turning a byte's bits turns the number's. -/
theorem num_set : ∀ (l : List UInt8) (i : Nat) (m : UInt8) (h : i < l.length), num (l.set i (l[i] ^^^ m)) = num l ^^^ (m.toNat * 256 ^ i)
  | c :: l, 0, m, h => by
    simp only [List.set, num, List.getElem_cons_zero, UInt8.toNat_xor, Nat.pow_zero, Nat.mul_one]
    apply Nat.eq_of_testBit_eq
    intro i
    simp only [Nat.testBit_xor]
    cases c.toNat.testBit i <;> cases m.toNat.testBit i <;> cases (num l * 256).testBit i <;> rfl
  | c :: l, i + 1, m, h => by
    simp only [List.set, num, List.getElem_cons_succ]
    rw [num_set l i m (by simpa using h)]
    have e : (num l ^^^ m.toNat * 256 ^ i) * 256 = num l * 256 ^^^ (m.toNat * 256 ^ i) * 256 := by
      have := Nat.shiftLeft_xor_distrib (a := num l) (b := m.toNat * 256 ^ i) (i := 8)
      simpa [Nat.shiftLeft_eq] using this
    rw [e, Nat.pow_succ, ← Nat.mul_assoc, ← Nat.xor_assoc]

theorem xor_self_cancel (a b : Nat) : a ^^^ (a ^^^ b) = b := by rw [← Nat.xor_assoc, Nat.xor_self, Nat.zero_xor]

/-- What the law asks of the two texts: the second one's number is the first one's with the window's bits turned. -/
theorem turned_sums (b c : List UInt8) (at_ bits : Nat) (hl : b.length = c.length) (hat : at_ ≤ 8 * b.length) (h0 : 0 < bits) (h32 : bits < 2 ^ 32)
    (hn : num c = num b ^^^ (bits * 2 ^ at_)) : sum b ≠ sum c := by
  intro he
  rw [sum_eq, sum_eq] at he
  have h1 : run ones b = run ones c := by
    have := congrArg (· ^^^ ones) he
    simpa [Nat.xor_assoc] using this
  have h2 := run_xor b c ones ones hl
  rw [h1, Nat.xor_self, Nat.xor_self, run_num, num_zip b c hl, hn, Nat.zero_xor, xor_self_cancel] at h2
  have hlen : 8 * (List.zipWith (· ^^^ ·) b c).length = at_ + (8 * b.length - at_) := by simp; omega
  rw [hlen, steps_add, steps_pow] at h2
  have := steps_zero _ h32 h2
  omega

/-- One bit more of the window. -/
theorem bits_succ (bits k : Nat) (h : bits / 2 ^ k % 2 = 1) : bits % 2 ^ (k + 1) = (bits % 2 ^ k) ^^^ 2 ^ k := by
  apply Nat.eq_of_testBit_eq
  intro i
  rw [Nat.testBit_xor, Nat.testBit_mod_two_pow, Nat.testBit_mod_two_pow, Nat.testBit_two_pow]
  by_cases hi : i = k
  · subst hi
    have : bits.testBit i = true := by rw [Nat.testBit_eq_decide_div_mod_eq]; simp [h]
    simp [this]
  · have e : (k = i) = False := by simp; omega
    simp only [e, decide_false, Bool.xor_false]
    by_cases hk : i < k
    · simp [hk]; intro; omega
    · have : ¬ i < k + 1 := by omega
      simp [hk, this]
theorem bits_same (bits k : Nat) (h : bits / 2 ^ k % 2 = 0) : bits % 2 ^ (k + 1) = bits % 2 ^ k := by
  rw [Nat.pow_succ, Nat.mod_mul, h]; simp

theorem num_step (c : List UInt8) (at_ bits k : Nat) (b : List UInt8) (hc : num c = num b ^^^ ((bits % 2 ^ k) * 2 ^ at_)) (h : bits / 2 ^ k % 2 = 1)
    (hi : (at_ + k) / 8 < c.length) (m : UInt8) (hm : m.toNat = 2 ^ ((at_ + k) % 8)) :
    num (c.set ((at_ + k) / 8) (c[(at_ + k) / 8] ^^^ m)) = num b ^^^ ((bits % 2 ^ (k + 1)) * 2 ^ at_) := by
  rw [num_set _ _ _ hi, hc, hm, bits_succ _ _ h, Nat.xor_assoc]
  congr 1
  have e : 2 ^ ((at_ + k) % 8) * 256 ^ ((at_ + k) / 8) = 2 ^ k * 2 ^ at_ := by
    have : (256 : Nat) = 2 ^ 8 := rfl
    rw [this, ← Nat.pow_mul, ← Nat.pow_add, ← Nat.pow_add]
    congr 1; omega
  rw [e]
  have := Nat.shiftLeft_xor_distrib (a := bits % 2 ^ k) (b := 2 ^ k) (i := at_)
  simpa [Nat.shiftLeft_eq] using this.symm

/-- A number in four bytes, the highest first; four bytes' number. -/
def four (n : Nat) : List UInt8 := [UInt8.ofNat (n / 16777216), UInt8.ofNat (n / 65536), UInt8.ofNat (n / 256), UInt8.ofNat n]
def get (l : List UInt8) : Nat := l.foldl (fun n c => n * 256 + c.toNat) 0
theorem four_length (n : Nat) : (four n).length = 4 := rfl
theorem get_four {n : Nat} (h : n < 4294967296) : get (four n) = n := by
  simp only [get, four, List.foldl, UInt8.toNat_ofNat']
  omega
theorem get_lt (l : List UInt8) (h : l.length = 4) : get l < 4294967296 := by
  match l, h with
  | [a, b, c, d], _ =>
    simp only [get, List.foldl]
    have := a.toNat_lt; have := b.toNat_lt; have := c.toNat_lt; have := d.toNat_lt
    omega
theorem four_get (l : List UInt8) (h : l.length = 4) : four (get l) = l := by
  match l, h with
  | [a, b, c, d], _ =>
    simp only [get, four, List.foldl]
    have := a.toNat_lt; have := b.toNat_lt; have := c.toNat_lt; have := d.toNat_lt
    have e1 : ∀ x : UInt8, ∀ y : Nat, y % 256 = x.toNat → UInt8.ofNat y = x := fun x y hy => by apply UInt8.toNat.inj; rw [UInt8.toNat_ofNat']; exact hy
    rw [e1 a _ (by omega), e1 b _ (by omega), e1 c _ (by omega), e1 d _ (by omega)]
end Crc
end Go.Proofs.YtbmamhcjbhnkiaaGreat
