/-
  CRC-32C in plain Lean: a byte's number bit by bit, a sum by the table. No program, no condition.
-/
namespace Go.Proofs.Ytdnhpmdmkdgmpaa

/-- one bit's turn -/
def turn1 (x : Nat) : Nat := if x % 2 = 1 then x / 2 ^^^ 2197175160 else x / 2
def turns : Nat → Nat → Nat
  | 0, x => x
  | k + 1, x => turn1 (turns k x)
/-- the table's number -/
def tab (i : Nat) : Nat := turns 8 i
/-- a sum with a byte more, as the program goes: x is the sum, all its bits turned -/
def upd (x c : Nat) : Nat := tab (x % 256 ^^^ c) ^^^ (x / 256)
def neg32 (x : Nat) : Nat := 4294967295 - x
def ext (sum : Nat) (b : List UInt8) : Nat := neg32 (b.foldl (fun x c => upd x c.toNat) (neg32 sum))

theorem turn1_lt {x : Nat} (h : x < 4294967296) : turn1 x < 4294967296 := by
  unfold turn1
  split
  · exact Nat.xor_lt_two_pow (n := 32) (by omega) (by omega)
  · omega
theorem turns_lt : ∀ (k : Nat) {x : Nat}, x < 4294967296 → turns k x < 4294967296
  | 0, _, h => h
  | k + 1, _, h => turn1_lt (turns_lt k h)
theorem tab_lt {i : Nat} (h : i < 256) : tab i < 4294967296 := turns_lt 8 (by omega)
theorem upd_lt {x c : Nat} (hx : x < 4294967296) (hc : c < 256) : upd x c < 4294967296 := by
  have h1 : x % 256 ^^^ c < 256 := Nat.xor_lt_two_pow (n := 8) (by omega) (by omega)
  exact Nat.xor_lt_two_pow (n := 32) (tab_lt h1) (by omega)
theorem fold_lt (b : List UInt8) : ∀ {x : Nat}, x < 4294967296 → b.foldl (fun x c => upd x c.toNat) x < 4294967296 := by
  induction b with
  | nil => intro x h; exact h
  | cons c r ih => intro x h; exact ih (upd_lt h c.toNat_lt)
theorem ext_lt {sum : Nat} (b : List UInt8) (h : sum < 4294967296) : ext sum b < 4294967296 := by
  have := fold_lt b (x := neg32 sum) (by unfold neg32; omega)
  unfold ext neg32 at *
  omega
theorem ext_nil {sum : Nat} (h : sum < 4294967296) : ext sum [] = sum := by
  simp [ext, neg32]
  omega

theorem sum_nine : ext 0 [49, 50, 51, 52, 53, 54, 55, 56, 57] = 3808858755 := by decide +kernel

/-! ### linear -/
theorem turn1_eq (x : Nat) : turn1 x = x / 2 ^^^ (if x % 2 = 1 then 2197175160 else 0) := by
  unfold turn1
  split <;> simp
theorem xor_div2 (a b : Nat) : (a ^^^ b) / 2 = a / 2 ^^^ b / 2 := by
  have := Nat.shiftRight_xor_distrib (a := a) (b := b) (i := 1)
  simpa [Nat.shiftRight_succ] using this
theorem xor_mod2 (a b : Nat) : (a ^^^ b) % 2 = (a % 2 + b % 2) % 2 := by
  have := Nat.xor_mod_two_pow (a := a) (b := b) (n := 1)
  simp only [Nat.pow_one] at this
  rw [this]
  rcases Nat.mod_two_eq_zero_or_one a with ha | ha <;> rcases Nat.mod_two_eq_zero_or_one b with hb | hb <;> simp [ha, hb]
theorem turn1_xor (a b : Nat) : turn1 (a ^^^ b) = turn1 a ^^^ turn1 b := by
  rw [turn1_eq, turn1_eq a, turn1_eq b, xor_div2, xor_mod2]
  have e : ∀ (p q r s : Nat), (p ^^^ r) ^^^ (q ^^^ s) = (p ^^^ q) ^^^ (r ^^^ s) := fun p q r s => by
    rw [Nat.xor_assoc, Nat.xor_assoc, ← Nat.xor_assoc r, Nat.xor_comm r q, Nat.xor_assoc q]
  rw [e]
  rcases Nat.mod_two_eq_zero_or_one a with ha | ha <;> rcases Nat.mod_two_eq_zero_or_one b with hb | hb <;> simp [ha, hb]
theorem turns_xor (k a b : Nat) : turns k (a ^^^ b) = turns k a ^^^ turns k b := by
  induction k with
  | zero => rfl
  | succ k ih => simp only [turns, ih, turn1_xor]
theorem turns_shift : ∀ (k y : Nat), turns k (y * 2 ^ k) = y
  | 0, y => by simp [turns]
  | k + 1, y => by
    have h : turns (k + 1) (y * 2 ^ (k + 1)) = turn1 (turns k (2 * y * 2 ^ k)) := by
      rw [turns, Nat.pow_succ, show y * (2 ^ k * 2) = 2 * y * 2 ^ k by rw [Nat.mul_comm (2 ^ k) 2, ← Nat.mul_assoc, Nat.mul_comm y 2]]
    rw [h, turns_shift k (2 * y)]
    unfold turn1
    rw [if_neg (by omega)]
    omega
/-- the reference's way: the byte into the sum, then eight turns -/
theorem split8 (x : Nat) : x = x % 256 ^^^ (x / 256 * 2 ^ 8) := by
  apply Nat.eq_of_testBit_eq
  intro i
  rw [Nat.testBit_xor, show (256 : Nat) = 2 ^ 8 from rfl, Nat.testBit_mod_two_pow, Nat.testBit_mul_two_pow, Nat.testBit_div_two_pow]
  by_cases h : i < 8
  · have h2 : ¬ 8 ≤ i := by omega
    simp [h, h2]
  · have h2 : 8 ≤ i := by omega
    simp [h, h2]
theorem turns_upd (x c : Nat) : turns 8 (x ^^^ c) = upd x c := by
  have e : x ^^^ c = (x % 256 ^^^ c) ^^^ (x / 256 * 2 ^ 8) := by
    conv => lhs; rw [split8 x]
    rw [Nat.xor_assoc, Nat.xor_assoc, Nat.xor_comm c]
  rw [e, turns_xor, turns_shift]
  rfl

end Go.Proofs.Ytdnhpmdmkdgmpaa
