/-
  The order of keys, in plain Lean: what bytes.Compare and '<' of strings say. No program, no condition.
-/
import Derived.Lib.Bytealg
import Derived.Laws.Strings
namespace Go.Proofs.Ytkbjbjkgohkkjaa

abbrev Key := List UInt8
/-- a key ahead of another -/
def klt (a b : Key) : Bool := Op.bytesLess a b

theorem klt_nil (a : Key) : klt a [] = false := by cases a <;> rfl
theorem klt_cons (x y : UInt8) (a b : Key) : klt (x :: a) (y :: b) = (decide (x < y) || (x == y && klt a b)) := rfl
theorem u8_lt_iff (x y : UInt8) : x < y ↔ x.toNat < y.toNat := Iff.rfl
theorem u8_eq_iff (x y : UInt8) : x = y ↔ x.toNat = y.toNat := UInt8.toNat_inj.symm

theorem klt_irrefl : ∀ a : Key, klt a a = false
  | [] => rfl
  | x :: a => by
    rw [klt_cons, klt_irrefl a]
    simp
theorem klt_trans : ∀ {a b c : Key}, klt a b = true → klt b c = true → klt a c = true
  | [], _, [], _, h2 => by rw [klt_nil] at h2; cases h2
  | [], _, _ :: _, _, _ => rfl
  | _ :: _, [], _, h1, _ => by rw [klt_nil] at h1; cases h1
  | _ :: _, _ :: _, [], _, h2 => by rw [klt_nil] at h2; cases h2
  | x :: a, y :: b, z :: c, h1, h2 => by
    rw [klt_cons] at h1 h2 ⊢
    simp only [Bool.or_eq_true, decide_eq_true_eq, Bool.and_eq_true, beq_iff_eq, u8_lt_iff, u8_eq_iff] at h1 h2 ⊢
    rcases h1 with h1 | ⟨h1, h1'⟩ <;> rcases h2 with h2 | ⟨h2, h2'⟩
    · exact .inl (by omega)
    · exact .inl (by omega)
    · exact .inl (by omega)
    · exact .inr ⟨by omega, klt_trans h1' h2'⟩
theorem klt_total : ∀ (a b : Key), klt a b = false → klt b a = false → a = b
  | [], [], _, _ => rfl
  | [], _ :: _, h, _ => by cases h
  | _ :: _, [], _, h => by cases h
  | x :: a, y :: b, h1, h2 => by
    rw [klt_cons] at h1 h2
    simp only [Bool.or_eq_false_iff, decide_eq_false_iff_not, Bool.and_eq_false_iff, beq_eq_false_iff_ne, ne_eq, u8_lt_iff, u8_eq_iff] at h1 h2
    have e : x = y := (u8_eq_iff x y).2 (by omega)
    subst e
    rw [klt_total a b (h1.2.resolve_left (fun h => h rfl)) (h2.2.resolve_left (fun h => h rfl))]
theorem klt_asymm {a b : Key} (h : klt a b = true) : klt b a = false := by
  cases h' : klt b a with
  | false => rfl
  | true =>
    have := klt_trans h h'
    rw [klt_irrefl] at this
    cases this
theorem klt_ne {a b : Key} (h : klt a b = true) : a ≠ b := fun e => by subst e; rw [klt_irrefl] at h; cases h

/-- bytes.Compare -/
theorem cmp_lt : ∀ (a b : Key), decide (Lib.compareBytes a b < 0) = klt a b
  | [], [] => rfl
  | [], _ :: _ => rfl
  | _ :: _, [] => rfl
  | x :: a, y :: b => by
    have e : Lib.compareBytes (x :: a) (y :: b) = if x < y then -1 else if y < x then 1 else Lib.compareBytes a b := rfl
    rw [klt_cons, ← cmp_lt a b, e]
    by_cases h1 : x < y
    · simp [h1]
    · by_cases h2 : y < x
      · have : ¬ x = y := fun e => by subst e; exact h1 h2
        simp [h1, h2, this]
      · have : x = y := by
          rw [u8_lt_iff] at h1 h2
          exact (u8_eq_iff x y).2 (by omega)
        simp [h1, h2, this]
theorem cmp_ge (a b : Key) : decide (0 ≤ Lib.compareBytes a b) = !klt a b := by
  rw [← cmp_lt]
  by_cases h : 0 ≤ Lib.compareBytes a b
  · have h' : ¬ Lib.compareBytes a b < 0 := by omega
    rw [decide_eq_true h, decide_eq_false h']
    rfl
  · have h' : Lib.compareBytes a b < 0 := by omega
    rw [decide_eq_false h, decide_eq_true h']
    rfl

end Go.Proofs.Ytkbjbjkgohkkjaa
