/-
  The varint of a number, in plain Lean: how it is written. No condition.
-/
import Derived.Test.YtdnhpmdmkdgmpaaKit
namespace Go.Proofs.Ytdnhpmdmkdgmpaa

def uvar (n : Nat) : List UInt8 := if h : n < 128 then [UInt8.ofNat n] else UInt8.ofNat (n % 128 + 128) :: uvar (n / 128)
termination_by n
decreasing_by omega

theorem uvar_lt {n : Nat} (h : n < 128) : uvar n = [UInt8.ofNat n] := by rw [uvar, dif_pos h]
theorem uvar_ge {n : Nat} (h : ¬ n < 128) : uvar n = UInt8.ofNat (n % 128 + 128) :: uvar (n / 128) := by rw [uvar, dif_neg h]
theorem uvar_pos (n : Nat) : 0 < (uvar n).length := by
  by_cases h : n < 128
  · rw [uvar_lt h]; simp
  · rw [uvar_ge h]; simp
theorem uvar_len (k : Nat) : ∀ n, n < 128 ^ k → 0 < k → (uvar n).length ≤ k := by
  induction k with
  | zero => intro n _ h; omega
  | succ k ih =>
    intro n hn _
    by_cases h : n < 128
    · rw [uvar_lt h]; simp
    · rw [uvar_ge h, List.length_cons]
      have hk : 0 < k := by
        rcases Nat.eq_zero_or_pos k with h0 | h0
        · subst h0; simp at hn; omega
        · exact h0
      have := ih (n / 128) (by rw [Nat.pow_succ] at hn; exact Nat.div_lt_of_lt_mul (by rw [Nat.mul_comm]; exact hn)) hk
      omega
theorem uvar_len10 (n : Nat) (h : n < 18446744073709551616) : (uvar n).length ≤ 10 := by
  have : (128 : Nat) ^ 10 = 1180591620717411303424 := by decide +kernel
  exact uvar_len 10 n (by omega) (by omega)
end Go.Proofs.Ytdnhpmdmkdgmpaa
