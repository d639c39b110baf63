/-
  A varint is read back, and what is read was written so, in plain Lean; a slice cut on both sides. No condition but the bounds.
-/
import Derived.Test.YtdnhpmdmkdgmpaaRefU
namespace Go.Proofs.Ytdnhpmdmkdgmpaa
open Go.RowKit

theorem rdU_len (b : List UInt8) : ∀ (f i acc : Nat) (v m : Nat), rdU b f i acc = .ok (v, m) → m ≤ b.length
  | 0, i, acc, v, m, h => by simp [rdU] at h
  | f + 1, i, acc, v, m, h => by
    rw [rdU] at h
    split at h
    · simp at h
    · rename_i x hx
      have hi : i < b.length := (List.getElem?_eq_some_iff.1 hx).1
      split at h
      · simp at h
      · split at h
        · split at h
          · simp at h
          · simp at h; omega
        · exact rdU_len b f _ _ v m h
theorem readU_len {b : List UInt8} {v m : Nat} (h : readU b = .ok (v, m)) : m ≤ b.length := rdU_len b _ _ _ v m h

theorem rdU_lt (b : List UInt8) : ∀ (f i acc : Nat) (v m : Nat), f + i = 10 → acc < 2 ^ (7 * i) → rdU b f i acc = .ok (v, m) → v < 18446744073709551616
  | 0, i, acc, v, m, _, _, h => by simp [rdU] at h
  | f + 1, i, acc, v, m, hf, ha, h => by
    rw [rdU] at h
    split at h
    · simp at h
    · rename_i x hx
      have h63 : (2 : Nat) ^ 63 = 9223372036854775808 := by decide +kernel
      split at h
      · simp at h
      · rename_i h9
        split at h
        · split at h
          · simp at h
          · simp only [Except.ok.injEq, Prod.mk.injEq] at h
            obtain ⟨rfl, _⟩ := h
            by_cases hi : i = 9
            · subst hi
              have : x.toNat % 128 ≤ 1 := by omega
              rw [show 7 * 9 = 63 by omega, h63] at *
              omega
            · have h1 := step_lt acc i (x.toNat % 128) ha (Nat.mod_lt _ (by decide))
              have h2 : (2 : Nat) ^ (7 * (i + 1)) ≤ 2 ^ 63 := Nat.pow_le_pow_right (by omega) (by omega)
              omega
        · exact rdU_lt b f (i + 1) _ v m (by omega) (step_lt acc i _ ha (Nat.mod_lt _ (by decide))) h
theorem readU_lt {b : List UInt8} {v m : Nat} (h : readU b = .ok (v, m)) : v < 18446744073709551616 := rdU_lt b _ _ _ v m (by omega) (by omega) h

section
variable {P : Program}
theorem run_cut2 (t e : TypeId) (ht : P.underlying t = some (.slice e)) (hs : ∀ w : World, (sizeOf e).run P w = .ok 1 w) (A : Option Addr) (n c : Nat) (k k' : IntKind) (i j : Int) (h0 : 0 ≤ i) (h1 : i ≤ j) (h2 : j ≤ c) (w : World) :
    (Instr.slice t (.slice A n c) (some (.int k i)) (some (.int k' j)) none).run P w = .ok (.slice (cutA A i.toNat c) (j.toNat - i.toNat) (c - i.toNat)) w := by
  have hj := run_sliceBound (P := P) (w := w) k' j c .sliceAcap (by omega) h2
  have hi := run_sliceBound (P := P) (w := w) k i j.toNat .sliceB h0 (by omega)
  simp [Instr.slice, run_underlying ht, Instr.sliceBounds, hj, hi, hs, cutA, Result.andThen]
end

theorem pow7 (i : Nat) : (2 : Nat) ^ (7 * (i + 1)) = 2 ^ (7 * i) * 128 := by rw [show 7 * (i + 1) = 7 * i + 7 by omega, Nat.pow_add]
theorem pow7_big {i : Nat} (h : 9 ≤ i) : 9223372036854775808 ≤ (2 : Nat) ^ (7 * i) := by
  have : (2 : Nat) ^ 63 = 9223372036854775808 := by decide +kernel
  rw [← this]
  exact Nat.pow_le_pow_right (by omega) (by omega)
theorem at_pre (pre more : List UInt8) (x : UInt8) (i : Nat) (h : pre.length = i) : (pre ++ x :: more)[i]? = some x := by
  subst h
  simp
theorem at_end (pre : List UInt8) (i : Nat) (h : pre.length = i) : pre[i]? = none := by
  subst h
  simp

/-- one round at a byte -/
theorem rdU_at {b : List UInt8} {f i acc : Nat} {x : UInt8} (h : b[i]? = some x) : rdU b (f + 1) i acc = if i = 9 ∧ 1 < x.toNat then .error 21 else
    if x.toNat < 128 then (if i ≠ 0 ∧ x.toNat = 0 then .error 21 else .ok (acc + x.toNat % 128 * 2 ^ (7 * i), i + 1))
    else rdU b f (i + 1) (acc + x.toNat % 128 * 2 ^ (7 * i)) := by
  rw [rdU, h]

theorem rdU_uvar (more : List UInt8) : ∀ (f i acc m n : Nat) (pre : List UInt8), f + i = 10 → pre.length = i → acc < 2 ^ (7 * i) → acc + m * 2 ^ (7 * i) = n → n < 18446744073709551616 → (i ≠ 0 → m ≠ 0) →
    rdU (pre ++ (uvar m ++ more)) f i acc = .ok (n, i + (uvar m).length)
  | 0, i, acc, m, n, pre, hf, hp, ha, hn, hn64, hm => by
    have hb := pow7_big (show 9 ≤ i by omega)
    have e : (2 : Nat) ^ (7 * i) = 1180591620717411303424 := by rw [show i = 10 by omega]
    have hm1 := hm (by omega)
    rw [e] at hn
    omega
  | f + 1, i, acc, m, n, pre, hf, hp, ha, hn, hn64, hm => by
    by_cases h : m < 128
    · rw [uvar_lt h, List.singleton_append, rdU_at (at_pre _ _ _ _ hp), UInt8.toNat_ofNat_of_lt' (show m < 256 by omega)]
      rw [if_neg ?_, if_pos h, if_neg (fun ⟨h1, h2⟩ => hm h1 h2), Nat.mod_eq_of_lt h, hn]
      · rfl
      · rintro ⟨rfl, h1⟩
        have hb := pow7_big (show 9 ≤ 9 by omega)
        have := Nat.mul_le_mul (show 2 ≤ m by omega) hb
        omega
    · have hi : i ≠ 9 := fun e => by
        have hb := pow7_big (show 9 ≤ i by omega)
        have := Nat.mul_le_mul (show 2 ≤ m by omega) hb
        omega
      rw [uvar_ge h, List.cons_append, rdU_at (at_pre _ _ _ _ hp), UInt8.toNat_ofNat_of_lt' (show m % 128 + 128 < 256 by omega)]
      rw [if_neg (by omega), if_neg (by omega)]
      have e1 : (m % 128 + 128) % 128 = m % 128 := by omega
      rw [e1]
      have := rdU_uvar more f (i + 1) (acc + m % 128 * 2 ^ (7 * i)) (m / 128) n (pre ++ [UInt8.ofNat (m % 128 + 128)]) (by omega) (by simp [hp]) (step_lt acc i _ ha (Nat.mod_lt _ (by decide))) (by
          rw [pow7, ← hn]
          generalize 2 ^ (7 * i) = p
          have : m * p = (m / 128 * 128 + m % 128) * p := by rw [Nat.div_add_mod']
          rw [this, Nat.add_mul, Nat.mul_comm p 128, ← Nat.mul_assoc]
          omega) hn64 (fun _ => by omega)
      rw [List.append_assoc, List.singleton_append] at this
      rw [this, List.length_cons]
      congr 2
      omega
theorem readU_uvar (n : Nat) (more : List UInt8) (hn : n < 18446744073709551616) : readU (uvar n ++ more) = .ok (n, (uvar n).length) := by
  have := rdU_uvar more 10 0 0 n n [] rfl rfl (by simp) (by simp) hn (fun h => absurd rfl h)
  simpa [readU] using this

theorem rdU_cut : ∀ (f i acc m x n : Nat) (pre : List UInt8), f + i = 10 → pre.length = i → acc < 2 ^ (7 * i) → acc + m * 2 ^ (7 * i) = n → n < 18446744073709551616 → (i ≠ 0 → m ≠ 0) → x < (uvar m).length →
    rdU (pre ++ (uvar m).take x) f i acc = .error 20
  | 0, i, acc, m, x, n, pre, hf, hp, ha, hn, hn64, hm, hx => by
    have e : (2 : Nat) ^ (7 * i) = 1180591620717411303424 := by rw [show i = 10 by omega]
    have hm1 := hm (by omega)
    rw [e] at hn
    omega
  | f + 1, i, acc, m, 0, n, pre, hf, hp, ha, hn, hn64, hm, hx => by
    rw [List.take_zero, List.append_nil, rdU, at_end _ _ hp]
  | f + 1, i, acc, m, x + 1, n, pre, hf, hp, ha, hn, hn64, hm, hx => by
    by_cases h : m < 128
    · rw [uvar_lt h] at hx
      simp at hx
    · have hi : i ≠ 9 := fun e => by
        have hb := pow7_big (show 9 ≤ i by omega)
        have := Nat.mul_le_mul (show 2 ≤ m by omega) hb
        omega
      rw [uvar_ge h, List.length_cons] at hx
      rw [uvar_ge h, List.take_succ_cons, rdU_at (at_pre _ _ _ _ hp), UInt8.toNat_ofNat_of_lt' (show m % 128 + 128 < 256 by omega)]
      rw [if_neg (by omega), if_neg (by omega)]
      have e1 : (m % 128 + 128) % 128 = m % 128 := by omega
      rw [e1]
      have := rdU_cut f (i + 1) (acc + m % 128 * 2 ^ (7 * i)) (m / 128) x n (pre ++ [UInt8.ofNat (m % 128 + 128)]) (by omega) (by simp [hp]) (step_lt acc i _ ha (Nat.mod_lt _ (by decide))) (by
          rw [pow7, ← hn]
          generalize 2 ^ (7 * i) = p
          have : m * p = (m / 128 * 128 + m % 128) * p := by rw [Nat.div_add_mod']
          rw [this, Nat.add_mul, Nat.mul_comm p 128, ← Nat.mul_assoc]
          omega) hn64 (fun _ => by omega) (by omega)
      rw [List.append_assoc, List.singleton_append] at this
      exact this
theorem readU_cut (n x : Nat) (hn : n < 18446744073709551616) (hx : x < (uvar n).length) : readU ((uvar n).take x) = .error 20 := by
  have := rdU_cut 10 0 0 n x n [] rfl rfl (by simp) (by simp) hn (fun h => absurd rfl h) hx
  simpa [readU] using this

theorem rdU_once (b : List UInt8) : ∀ (f i acc v k : Nat), f + i = 10 → rdU b f i acc = .ok (v, k) →
    ∃ m, v = acc + m * 2 ^ (7 * i) ∧ i < k ∧ (b.drop i).take (k - i) = uvar m ∧ (i ≠ 0 → m ≠ 0)
  | 0, i, acc, v, k, hf, h => by simp [rdU] at h
  | f + 1, i, acc, v, k, hf, h => by
    cases hx : b[i]? with
    | none => rw [rdU, hx] at h; simp at h
    | some x =>
      rw [rdU_at hx] at h
      have hxl := x.toNat_lt
      have hd : b.drop i = x :: b.drop (i + 1) := by
        obtain ⟨hi, e⟩ := List.getElem?_eq_some_iff.1 hx
        rw [List.drop_eq_getElem_cons hi, e]
      split at h
      · simp at h
      · split at h
        · rename_i h128
          split at h
          · simp at h
          · rename_i h0
            simp only [Except.ok.injEq, Prod.mk.injEq] at h
            obtain ⟨rfl, rfl⟩ := h
            refine ⟨x.toNat, by rw [Nat.mod_eq_of_lt h128], by omega, ?_, fun hi hz => h0 ⟨hi, hz⟩⟩
            rw [hd, show i + 1 - i = 1 by omega, uvar_lt h128]
            simp
        · rename_i h128
          obtain ⟨m, rfl, hik, ht, hm⟩ := rdU_once b f (i + 1) _ v k (by omega) h
          have hm0 := hm (by omega)
          refine ⟨x.toNat % 128 + m * 128, ?_, by omega, ?_, fun _ => by omega⟩
          · rw [pow7, Nat.add_mul]
            generalize 2 ^ (7 * i) = p
            rw [Nat.mul_assoc m, Nat.mul_comm 128 p]
            omega
          · rw [hd, show k - i = (k - (i + 1)) + 1 by omega, List.take_succ_cons, ht, uvar_ge (show ¬ x.toNat % 128 + m * 128 < 128 by omega)]
            have e1 : (x.toNat % 128 + m * 128) % 128 + 128 = x.toNat := by omega
            have e2 : (x.toNat % 128 + m * 128) / 128 = m := by omega
            rw [e1, e2, UInt8.ofNat_toNat]
theorem readU_once {b : List UInt8} {v k : Nat} (h : readU b = .ok (v, k)) : b.take k = uvar v := by
  obtain ⟨m, rfl, _, ht, _⟩ := rdU_once b 10 0 0 v k rfl h
  simpa using ht

end Go.Proofs.Ytdnhpmdmkdgmpaa
