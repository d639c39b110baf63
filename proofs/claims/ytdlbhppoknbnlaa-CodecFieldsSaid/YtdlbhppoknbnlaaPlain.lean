/-
  What is written is read back, and what is read was written so, in plain Lean. No program; no condition but the bounds.
-/
import Derived.Test.YtdlbhppoknbnlaaReadL
import Derived.Test.YtdlbhppoknbnlaaInts
namespace Go.Proofs.Ytdlbhppoknbnlaa

theorem pow7 (i : Nat) : (2 : Nat) ^ (7 * (i + 1)) = 2 ^ (7 * i) * 128 := by rw [show 7 * (i + 1) = 7 * i + 7 by omega, Nat.pow_add]
theorem pow7_big {i : Nat} (h : 9 ≤ i) : 9223372036854775808 ≤ (2 : Nat) ^ (7 * i) := by
  have : (2 : Nat) ^ 63 = 9223372036854775808 := by decide +kernel
  rw [← this]
  exact Nat.pow_le_pow_right (by omega) (by omega)
theorem at_pre (pre more : List UInt8) (x : UInt8) (i : Nat) (h : pre.length = i) : (pre ++ x :: more)[i]? = some x := by
  subst h
  simp
theorem at_end (pre : List UInt8) (i : Nat) (h : pre.length = i) : pre[i]? = none := by
  subst h
  simp

/-- one round at a byte -/
theorem rdU_at {b : List UInt8} {f i acc : Nat} {x : UInt8} (h : b[i]? = some x) : rdU b (f + 1) i acc = if i = 9 ∧ 1 < x.toNat then .error 21 else
    if x.toNat < 128 then (if i ≠ 0 ∧ x.toNat = 0 then .error 21 else .ok (acc + x.toNat % 128 * 2 ^ (7 * i), i + 1))
    else rdU b f (i + 1) (acc + x.toNat % 128 * 2 ^ (7 * i)) := by
  rw [rdU, h]

theorem rdU_uvar (more : List UInt8) : ∀ (f i acc m n : Nat) (pre : List UInt8), f + i = 10 → pre.length = i → acc < 2 ^ (7 * i) → acc + m * 2 ^ (7 * i) = n → n < 18446744073709551616 → (i ≠ 0 → m ≠ 0) →
    rdU (pre ++ (uvar m ++ more)) f i acc = .ok (n, i + (uvar m).length)
  | 0, i, acc, m, n, pre, hf, hp, ha, hn, hn64, hm => by
    have hb := pow7_big (show 9 ≤ i by omega)
    have e : (2 : Nat) ^ (7 * i) = 1180591620717411303424 := by rw [show i = 10 by omega]
    have hm1 := hm (by omega)
    rw [e] at hn
    omega
  | f + 1, i, acc, m, n, pre, hf, hp, ha, hn, hn64, hm => by
    by_cases h : m < 128
    · rw [uvar_lt h, List.singleton_append, rdU_at (at_pre _ _ _ _ hp), UInt8.toNat_ofNat_of_lt' (show m < 256 by omega)]
      rw [if_neg ?_, if_pos h, if_neg (fun ⟨h1, h2⟩ => hm h1 h2), Nat.mod_eq_of_lt h, hn]
      · rfl
      · rintro ⟨rfl, h1⟩
        have hb := pow7_big (show 9 ≤ 9 by omega)
        have := Nat.mul_le_mul (show 2 ≤ m by omega) hb
        omega
    · have hi : i ≠ 9 := fun e => by
        have hb := pow7_big (show 9 ≤ i by omega)
        have := Nat.mul_le_mul (show 2 ≤ m by omega) hb
        omega
      rw [uvar_ge h, List.cons_append, rdU_at (at_pre _ _ _ _ hp), UInt8.toNat_ofNat_of_lt' (show m % 128 + 128 < 256 by omega)]
      rw [if_neg (by omega), if_neg (by omega)]
      have e1 : (m % 128 + 128) % 128 = m % 128 := by omega
      rw [e1]
      have := rdU_uvar more f (i + 1) (acc + m % 128 * 2 ^ (7 * i)) (m / 128) n (pre ++ [UInt8.ofNat (m % 128 + 128)]) (by omega) (by simp [hp]) (step_lt acc i _ ha (Nat.mod_lt _ (by decide))) (by
          rw [pow7, ← hn]
          generalize 2 ^ (7 * i) = p
          have : m * p = (m / 128 * 128 + m % 128) * p := by rw [Nat.div_add_mod']
          rw [this, Nat.add_mul, Nat.mul_comm p 128, ← Nat.mul_assoc]
          omega) hn64 (fun _ => by omega)
      rw [List.append_assoc, List.singleton_append] at this
      rw [this, List.length_cons]
      congr 2
      omega
theorem readU_uvar (n : Nat) (more : List UInt8) (hn : n < 18446744073709551616) : readU (uvar n ++ more) = .ok (n, (uvar n).length) := by
  have := rdU_uvar more 10 0 0 n n [] rfl rfl (by simp) (by simp) hn (fun h => absurd rfl h)
  simpa [readU] using this

theorem rdU_cut : ∀ (f i acc m x n : Nat) (pre : List UInt8), f + i = 10 → pre.length = i → acc < 2 ^ (7 * i) → acc + m * 2 ^ (7 * i) = n → n < 18446744073709551616 → (i ≠ 0 → m ≠ 0) → x < (uvar m).length →
    rdU (pre ++ (uvar m).take x) f i acc = .error 20
  | 0, i, acc, m, x, n, pre, hf, hp, ha, hn, hn64, hm, hx => by
    have e : (2 : Nat) ^ (7 * i) = 1180591620717411303424 := by rw [show i = 10 by omega]
    have hm1 := hm (by omega)
    rw [e] at hn
    omega
  | f + 1, i, acc, m, 0, n, pre, hf, hp, ha, hn, hn64, hm, hx => by
    rw [List.take_zero, List.append_nil, rdU, at_end _ _ hp]
  | f + 1, i, acc, m, x + 1, n, pre, hf, hp, ha, hn, hn64, hm, hx => by
    by_cases h : m < 128
    · rw [uvar_lt h] at hx
      simp at hx
    · have hi : i ≠ 9 := fun e => by
        have hb := pow7_big (show 9 ≤ i by omega)
        have := Nat.mul_le_mul (show 2 ≤ m by omega) hb
        omega
      rw [uvar_ge h, List.length_cons] at hx
      rw [uvar_ge h, List.take_succ_cons, rdU_at (at_pre _ _ _ _ hp), UInt8.toNat_ofNat_of_lt' (show m % 128 + 128 < 256 by omega)]
      rw [if_neg (by omega), if_neg (by omega)]
      have e1 : (m % 128 + 128) % 128 = m % 128 := by omega
      rw [e1]
      have := rdU_cut f (i + 1) (acc + m % 128 * 2 ^ (7 * i)) (m / 128) x n (pre ++ [UInt8.ofNat (m % 128 + 128)]) (by omega) (by simp [hp]) (step_lt acc i _ ha (Nat.mod_lt _ (by decide))) (by
          rw [pow7, ← hn]
          generalize 2 ^ (7 * i) = p
          have : m * p = (m / 128 * 128 + m % 128) * p := by rw [Nat.div_add_mod']
          rw [this, Nat.add_mul, Nat.mul_comm p 128, ← Nat.mul_assoc]
          omega) hn64 (fun _ => by omega) (by omega)
      rw [List.append_assoc, List.singleton_append] at this
      exact this
theorem readU_cut (n x : Nat) (hn : n < 18446744073709551616) (hx : x < (uvar n).length) : readU ((uvar n).take x) = .error 20 := by
  have := rdU_cut 10 0 0 n x n [] rfl rfl (by simp) (by simp) hn (fun h => absurd rfl h) hx
  simpa [readU] using this

theorem rdU_once (b : List UInt8) : ∀ (f i acc v k : Nat), f + i = 10 → rdU b f i acc = .ok (v, k) →
    ∃ m, v = acc + m * 2 ^ (7 * i) ∧ i < k ∧ (b.drop i).take (k - i) = uvar m ∧ (i ≠ 0 → m ≠ 0)
  | 0, i, acc, v, k, hf, h => by simp [rdU] at h
  | f + 1, i, acc, v, k, hf, h => by
    cases hx : b[i]? with
    | none => rw [rdU, hx] at h; simp at h
    | some x =>
      rw [rdU_at hx] at h
      have hxl := x.toNat_lt
      have hd : b.drop i = x :: b.drop (i + 1) := by
        obtain ⟨hi, e⟩ := List.getElem?_eq_some_iff.1 hx
        rw [List.drop_eq_getElem_cons hi, e]
      split at h
      · simp at h
      · split at h
        · rename_i h128
          split at h
          · simp at h
          · rename_i h0
            simp only [Except.ok.injEq, Prod.mk.injEq] at h
            obtain ⟨rfl, rfl⟩ := h
            refine ⟨x.toNat, by rw [Nat.mod_eq_of_lt h128], by omega, ?_, fun hi hz => h0 ⟨hi, hz⟩⟩
            rw [hd, show i + 1 - i = 1 by omega, uvar_lt h128]
            simp
        · rename_i h128
          obtain ⟨m, rfl, hik, ht, hm⟩ := rdU_once b f (i + 1) _ v k (by omega) h
          have hm0 := hm (by omega)
          refine ⟨x.toNat % 128 + m * 128, ?_, by omega, ?_, fun _ => by omega⟩
          · rw [pow7, Nat.add_mul]
            generalize 2 ^ (7 * i) = p
            rw [Nat.mul_assoc m, Nat.mul_comm 128 p]
            omega
          · rw [hd, show k - i = (k - (i + 1)) + 1 by omega, List.take_succ_cons, ht, uvar_ge (show ¬ x.toNat % 128 + m * 128 < 128 by omega)]
            have e1 : (x.toNat % 128 + m * 128) % 128 + 128 = x.toNat := by omega
            have e2 : (x.toNat % 128 + m * 128) / 128 = m := by omega
            rw [e1, e2, UInt8.ofNat_toNat]
theorem readU_once {b : List UInt8} {v k : Nat} (h : readU b = .ok (v, k)) : b.take k = uvar v := by
  obtain ⟨m, rfl, _, ht, _⟩ := rdU_once b 10 0 0 v k rfl h
  simpa using ht

theorem readI_zig (i : Int) (more : List UInt8) (h0 : -9223372036854775808 ≤ i) (h1 : i ≤ 9223372036854775807) : readI (uvar (zig i) ++ more) = .ok (i, (uvar (zig i)).length) := by
  rw [readI, readU_uvar _ _ (zig_lt h0 h1)]
  simp [unzig_zig]
theorem readI_once {b : List UInt8} {i : Int} {k : Nat} (h : readI b = .ok (i, k)) : b.take k = uvar (zig i) ∧ k ≤ b.length ∧ -9223372036854775808 ≤ i ∧ i ≤ 9223372036854775807 := by
  unfold readI at h
  split at h
  · rename_i u k' hu
    simp only [Except.ok.injEq, Prod.mk.injEq] at h
    obtain ⟨rfl, rfl⟩ := h
    have hb := unzig_bounds (readU_lt hu)
    rw [zig_unzig]
    exact ⟨readU_once hu, readU_len hu, hb.1, hb.2⟩
  · simp at h

theorem readF_field (f more : List UInt8) (hf : f.length ≤ 1048576) : readF ((uvar f.length ++ f) ++ more) = .ok (f, (uvar f.length ++ f).length) := by
  rw [readF, List.append_assoc, readU_uvar _ _ (by omega)]
  simp only [List.length_append]
  rw [if_neg (by omega), if_neg (by omega), List.drop_left, List.take_left' rfl]
theorem readF_once {b f : List UInt8} {k : Nat} (h : readF b = .ok (f, k)) : b.take k = uvar f.length ++ f := by
  unfold readF at h
  split at h
  · rename_i n k' hu
    have hk := readU_len hu
    split at h
    · simp at h
    · split at h
      · simp at h
      · simp only [Except.ok.injEq, Prod.mk.injEq] at h
        obtain ⟨rfl, rfl⟩ := h
        have hl : ((b.drop k').take n).length = n := by rw [List.length_take, List.length_drop]; omega
        rw [hl, ← readU_once hu, List.take_add]
  · simp at h

theorem rdL_fields (more : List UInt8) : ∀ (l acc : List (List UInt8)) (pre : List UInt8), (∀ f ∈ l, f.length ≤ 1048576) →
    rdL (pre ++ ((l.map fun f => uvar f.length ++ f).flatten ++ more)) l.length pre.length acc = .ok (acc ++ l, pre.length + (l.map fun f => uvar f.length ++ f).flatten.length)
  | [], acc, pre, _ => by simp [rdL]
  | f :: l, acc, pre, hl => by
    rw [List.length_cons, rdL]
    have e : (pre ++ ((((f :: l).map fun f => uvar f.length ++ f).flatten) ++ more)).drop pre.length = (uvar f.length ++ f) ++ ((l.map fun f => uvar f.length ++ f).flatten ++ more) := by
      rw [List.drop_left, List.map_cons, List.flatten_cons, List.append_assoc]
    rw [e, readF_field _ _ (hl f (List.mem_cons_self ..))]
    have := rdL_fields more l (acc ++ [f]) (pre ++ (uvar f.length ++ f)) (fun x hx => hl x (List.mem_cons_of_mem _ hx))
    rw [List.length_append] at this
    simp only [List.map_cons, List.flatten_cons, List.append_assoc, List.length_append, List.singleton_append] at this ⊢
    rw [this]
    simp only [Nat.add_assoc]
theorem readL_fields (l : List (List UInt8)) (more : List UInt8) (hn : l.length ≤ 65536) (hl : ∀ f ∈ l, f.length ≤ 1048576) : readL (fieldsB l ++ more) = .ok (l, (fieldsB l).length) := by
  rw [readL, fieldsB, List.append_assoc, readU_uvar _ _ (by omega)]
  simp only
  rw [if_neg (by omega), rdL_fields more l [] (uvar l.length) hl]
  simp

theorem rdL_once (b : List UInt8) : ∀ (n k : Nat) (acc fs : List (List UInt8)) (k' : Nat), rdL b n k acc = .ok (fs, k') →
    ∃ gs, fs = acc ++ gs ∧ gs.length = n ∧ b.take k' = b.take k ++ (gs.map fun f => uvar f.length ++ f).flatten
  | 0, k, acc, fs, k', h => by
    simp [rdL] at h
    obtain ⟨rfl, rfl⟩ := h
    exact ⟨[], by simp, rfl, by simp⟩
  | n + 1, k, acc, fs, k', h => by
    rw [rdL] at h
    split at h
    · rename_i f m hf
      obtain ⟨gs, rfl, hl, ht⟩ := rdL_once b n (k + m) (acc ++ [f]) fs k' h
      refine ⟨f :: gs, by simp, by simp [hl], ?_⟩
      rw [ht, List.take_add, readF_once hf]
      simp
    · simp at h
theorem readL_once {b : List UInt8} {fs : List (List UInt8)} {k : Nat} (h : readL b = .ok (fs, k)) : b.take k = fieldsB fs := by
  unfold readL at h
  split at h
  · rename_i n k' hu
    split at h
    · simp at h
    · obtain ⟨gs, rfl, hl, ht⟩ := rdL_once b n k' [] fs k h
      rw [ht, readU_once hu, ← hl, fieldsB]
  · simp at h

end Go.Proofs.Ytdlbhppoknbnlaa
