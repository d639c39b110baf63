/-
  In plain Lean: sums of two lists that differ within four bytes side by side differ; what Unframe takes was framed so. No program; no condition but the bounds.
-/
import Derived.Test.YtdnhpmdmkdgmpaaRefFr
namespace Go.Proofs.Ytdnhpmdmkdgmpaa

theorem xor_zero_eq {a b : Nat} (h : a ^^^ b = 0) : a = b := by
  have e : a ^^^ b ^^^ b = a := by rw [Nat.xor_assoc, Nat.xor_self, Nat.xor_zero]
  rw [h, Nat.zero_xor] at e
  exact e.symm
theorem turn1_zero {x : Nat} (hx : x < 4294967296) (h : turn1 x = 0) : x = 0 := by
  unfold turn1 at h
  split at h
  · have := xor_zero_eq h
    omega
  · omega
theorem turns_zero : ∀ (k : Nat) {x : Nat}, x < 4294967296 → turns k x = 0 → x = 0
  | 0, _, _, h => h
  | k + 1, _, hx, h => turns_zero k hx (turn1_zero (turns_lt k hx) h)
theorem xor_lt32 {a b : Nat} (ha : a < 4294967296) (hb : b < 4294967296) : a ^^^ b < 4294967296 := Nat.xor_lt_two_pow (n := 32) (by omega) (by omega)
theorem turns_inj (k : Nat) {x y : Nat} (hx : x < 4294967296) (hy : y < 4294967296) (h : turns k x = turns k y) : x = y := by
  refine xor_zero_eq (turns_zero k (xor_lt32 hx hy) ?_)
  rw [turns_xor, h, Nat.xor_self]
theorem turns8_eq {z y : Nat} (hz : z < 4294967296) (hy : y < 16777216) (h : turns 8 z = y) : z = y * 256 :=
  turns_inj 8 hz (by omega) (by rw [h, turns_shift 8 y])

theorem upd_xor (x y a d : Nat) : upd (x ^^^ y) (a ^^^ d) = upd x a ^^^ upd y d := by
  rw [← turns_upd, ← turns_upd, ← turns_upd, ← turns_xor]
  congr 1
  rw [Nat.xor_assoc, Nat.xor_assoc, ← Nat.xor_assoc y, Nat.xor_comm y a, Nat.xor_assoc a]
theorem upd_inj {x y : Nat} {c : UInt8} (hx : x < 4294967296) (hy : y < 4294967296) (h : upd x c.toNat = upd y c.toNat) : x = y := by
  have hc := c.toNat_lt
  rw [← turns_upd, ← turns_upd] at h
  have e := turns_inj 8 (xor_lt32 hx (by omega)) (xor_lt32 hy (by omega)) h
  have e1 : ∀ z : Nat, z ^^^ c.toNat ^^^ c.toNat = z := fun z => by rw [Nat.xor_assoc, Nat.xor_self, Nat.xor_zero]
  rw [← e1 x, e, e1]
theorem foldx_lt (b : List UInt8) {x : Nat} (h : x < 4294967296) : foldx x b < 4294967296 := fold_lt b h
theorem foldx_inj : ∀ (q : List UInt8) {x y : Nat}, x < 4294967296 → y < 4294967296 → foldx x q = foldx y q → x = y
  | [], _, _, _, _, h => h
  | c :: q, x, y, hx, hy, h => upd_inj hx hy (foldx_inj q (upd_lt hx c.toNat_lt) (upd_lt hy c.toNat_lt) h)

theorem xor_small {a b : Nat} (ha : a < 256) (h : a ^^^ b * 256 = 0) : a = 0 ∧ b = 0 := by
  have := xor_zero_eq h
  omega
theorem four_zero {y0 y1 y2 y3 : Nat} (h0 : y0 < 256) (h1 : y1 < 256) (h2 : y2 < 256) (h3 : y3 < 256) (h : upd (upd (upd (upd 0 y0) y1) y2) y3 = 0) : y0 = 0 ∧ y1 = 0 ∧ y2 = 0 ∧ y3 = 0 := by
  have l0 : upd 0 y0 < 4294967296 := upd_lt (by omega) h0
  have l1 : upd (upd 0 y0) y1 < 4294967296 := upd_lt l0 h1
  have l2 : upd (upd (upd 0 y0) y1) y2 < 4294967296 := upd_lt l1 h2
  rw [← turns_upd] at h
  have e3 := xor_zero_eq (turns_zero 8 (xor_lt32 l2 (by omega)) h)
  rw [← turns_upd] at e3
  have e2 := turns8_eq (xor_lt32 l1 (by omega)) (by omega) e3
  have f2 : upd (upd 0 y0) y1 = y2 ^^^ y3 * 256 := by
    have : upd (upd 0 y0) y1 ^^^ y2 ^^^ y2 = upd (upd 0 y0) y1 := by rw [Nat.xor_assoc, Nat.xor_self, Nat.xor_zero]
    rw [← this, e2, Nat.xor_comm]
  have g2 : y2 ^^^ y3 * 256 < 65536 := Nat.xor_lt_two_pow (n := 16) (by omega) (by omega)
  rw [← turns_upd] at f2
  have e1 := turns8_eq (xor_lt32 l0 (by omega)) (by omega) f2
  obtain ⟨E, hE⟩ : ∃ E, y2 ^^^ y3 * 256 = E := ⟨_, rfl⟩
  rw [hE] at e1 g2
  have f1 : upd 0 y0 = y1 ^^^ E * 256 := by
    have : upd 0 y0 ^^^ y1 ^^^ y1 = upd 0 y0 := by rw [Nat.xor_assoc, Nat.xor_self, Nat.xor_zero]
    rw [← this, e1, Nat.xor_comm]
  have g1 : y1 ^^^ E * 256 < 16777216 := Nat.xor_lt_two_pow (n := 24) (by omega) (by omega)
  rw [← turns_upd, Nat.zero_xor] at f1
  have e0 := turns8_eq (by omega) g1 f1
  have z0 : y1 ^^^ E * 256 = 0 := by omega
  obtain ⟨r1, r2⟩ := xor_small h1 z0
  rw [r2] at hE
  obtain ⟨r3, r4⟩ := xor_small h2 hE
  refine ⟨?_, r1, r3, r4⟩
  rw [z0] at e0
  omega

theorem ext_inj {s : Nat} {a b : List UInt8} (hs : s < 4294967296) (h : ext s a = ext s b) : foldx (neg32 s) a = foldx (neg32 s) b := by
  have h1 := fold_lt a (x := neg32 s) (by unfold neg32; omega)
  have h2 := fold_lt b (x := neg32 s) (by unfold neg32; omega)
  unfold ext at h
  unfold foldx
  unfold neg32 at h h1 h2 ⊢
  omega
theorem foldx_append (x : Nat) (a b : List UInt8) : foldx x (a ++ b) = foldx (foldx x a) b := by
  unfold foldx
  rw [List.foldl_append]

/-- **sums differ** -/
theorem sums_differ (p q : List UInt8) (b0 b1 b2 b3 y0 y1 y2 y3 : UInt8) (h : ¬ (y0 = 0 ∧ y1 = 0 ∧ y2 = 0 ∧ y3 = 0)) :
    ext 0 (p ++ [b0 ^^^ y0, b1 ^^^ y1, b2 ^^^ y2, b3 ^^^ y3] ++ q) ≠ ext 0 (p ++ [b0, b1, b2, b3] ++ q) := fun e => by
  have e := ext_inj (by omega) e
  rw [foldx_append, foldx_append _ _ q] at e
  have hn : neg32 0 < 4294967296 := by decide
  have e := foldx_inj q (foldx_lt _ hn) (foldx_lt _ hn) e
  rw [foldx_append, foldx_append] at e
  have hX : foldx (neg32 0) p < 4294967296 := fold_lt _ hn
  generalize foldx (neg32 0) p = X at *
  have e1 : ∀ (l : List UInt8) (c : UInt8) (x : Nat), foldx x (c :: l) = foldx (upd x c.toNat) l := fun _ _ _ => rfl
  have e0 : ∀ (x : Nat), foldx x [] = x := fun _ => rfl
  rw [e1, e1, e1, e1, e0, e1, e1, e1, e1, e0, UInt8.toNat_xor, UInt8.toNat_xor, UInt8.toNat_xor, UInt8.toNat_xor] at e
  rw [show upd X (b0.toNat ^^^ y0.toNat) = upd X b0.toNat ^^^ upd 0 y0.toNat by rw [← upd_xor, Nat.xor_zero], upd_xor, upd_xor, upd_xor] at e
  have z : upd (upd (upd (upd 0 y0.toNat) y1.toNat) y2.toNat) y3.toNat = 0 := by
    have : ∀ a b : Nat, a ^^^ b = a → b = 0 := fun a b hh => by
      have : a ^^^ (a ^^^ b) = a ^^^ a := by rw [hh]
      rw [← Nat.xor_assoc, Nat.xor_self, Nat.zero_xor] at this
      exact this
    exact this _ _ e
  obtain ⟨r0, r1, r2, r3⟩ := four_zero y0.toNat_lt y1.toNat_lt y2.toNat_lt y3.toNat_lt z
  exact h ⟨UInt8.toNat_inj.1 r0, UInt8.toNat_inj.1 r1, UInt8.toNat_inj.1 r2, UInt8.toNat_inj.1 r3⟩

/-! ### bytes turned -/
/-- the first j of the bytes from place at on are turned by ys -/
def turned (ks : List UInt8) (at_ : Nat) (ys : List UInt8) (j : Nat) : List UInt8 := ks.mapIdx fun i x => if at_ ≤ i ∧ i < at_ + j then x ^^^ ys.getD (i - at_) 0 else x
theorem turned_len (ks : List UInt8) (a : Nat) (ys : List UInt8) (j : Nat) : (turned ks a ys j).length = ks.length := by simp [turned]
theorem turned_zero (ks : List UInt8) (a : Nat) (ys : List UInt8) : turned ks a ys 0 = ks := by
  apply List.ext_getElem
  · simp [turned]
  · intro i h1 h2
    simp [turned]
    omega
theorem turned_at (ks : List UInt8) (a : Nat) (ys : List UInt8) (j : Nat) (h : a + j < ks.length) : (turned ks a ys j)[a + j]'(by rw [turned_len]; exact h) = ks[a + j] := by
  simp [turned]
theorem turned_succ (ks : List UInt8) (a : Nat) (ys : List UInt8) (j : Nat) (h : a + j < ks.length) (hj : j < ys.length) : turned ks a ys (j + 1) = (turned ks a ys j).set (a + j) (ks[a + j] ^^^ ys[j]) := by
  apply List.ext_getElem
  · simp [turned]
  · intro i h1 h2
    rw [List.getElem_set]
    by_cases e : a + j = i
    · subst e
      simp [turned, hj]
    · rw [if_neg e]
      simp only [turned, List.getElem_mapIdx]
      by_cases e1 : a ≤ i ∧ i < a + j
      · rw [if_pos e1, if_pos (by omega)]
      · rw [if_neg e1, if_neg (by omega)]
theorem turned_four (ks : List UInt8) (a : Nat) (y0 y1 y2 y3 : UInt8) (h : a + 4 ≤ ks.length) : turned ks a [y0, y1, y2, y3] 4 = ks.take a ++ [ks[a] ^^^ y0, ks[a + 1] ^^^ y1, ks[a + 2] ^^^ y2, ks[a + 3] ^^^ y3] ++ ks.drop (a + 4) := by
  apply List.ext_getElem
  · simp [turned]; omega
  · intro i h1 h2
    rw [turned_len] at h1
    simp only [turned, List.getElem_mapIdx]
    rcases Nat.lt_or_ge i a with hi | hi
    · rw [if_neg (by omega), List.getElem_append_left (by simp; omega), List.getElem_append_left (by simp; omega)]
      simp
    · rcases Nat.lt_or_ge i (a + 4) with hi4 | hi4
      · rw [if_pos ⟨hi, hi4⟩, List.getElem_append_left (by simp; omega), List.getElem_append_right (by simp; omega)]
        obtain ⟨d, rfl⟩ : ∃ d, i = a + d := ⟨i - a, by omega⟩
        have hl : (List.take a ks).length = a := by simp; omega
        simp only [hl, Nat.add_sub_cancel_left]
        rcases d with _ | _ | _ | _ | d
        · rfl
        · rfl
        · rfl
        · rfl
        · omega
      · rw [if_neg (by omega), List.getElem_append_right (by simp; omega)]
        simp
        congr 1
        omega
theorem split_four (ks : List UInt8) (a : Nat) (h : a + 4 ≤ ks.length) : ks = ks.take a ++ [ks[a], ks[a + 1], ks[a + 2], ks[a + 3]] ++ ks.drop (a + 4) := by
  rw [← four_of ks a h, List.append_assoc, ← List.drop_drop, List.take_append_drop, List.take_append_drop]
theorem sums_turned (ks : List UInt8) (a : Nat) (y0 y1 y2 y3 : UInt8) (h : a + 4 ≤ ks.length) (hy : ¬ (y0 = 0 ∧ y1 = 0 ∧ y2 = 0 ∧ y3 = 0)) : ext 0 (turned ks a [y0, y1, y2, y3] 4) ≠ ext 0 ks := by
  rw [turned_four ks a y0 y1 y2 y3 h]
  have := sums_differ (ks.take a) (ks.drop (a + 4)) ks[a] ks[a + 1] ks[a + 2] ks[a + 3] y0 y1 y2 y3 hy
  rw [← split_four ks a h] at this
  exact this

/-! ### frames -/
theorem unfr_err {b : List UInt8} {c : Int} (h : unfr b = .error c) : c = 30 ∨ c = 31 := by
  unfold unfr at h
  split at h
  · simp at h; omega
  · split at h
    · simp at h; omega
    · split at h
      · simp at h
      · simp at h; omega
theorem unfr_once {b p : List UInt8} {k : Nat} (h : unfr b = .ok (p, k)) : b.take k = frameB p ∧ k ≤ b.length ∧ p.length ≤ 16777216 := by
  unfold unfr at h
  split at h
  · simp at h
  · rename_i n k' hu
    split at h
    · simp at h
    · rename_i hb
      split at h
      · rename_i hs
        simp only [Except.ok.injEq, Prod.mk.injEq] at h
        obtain ⟨rfl, rfl⟩ := h
        have hl : ((b.drop (k' + 4)).take n).length = n := by rw [List.length_take, List.length_drop]; omega
        refine ⟨?_, by omega, by omega⟩
        rw [frameB, hl, hs, ← readU_once hu, List.take_add, List.take_add]
      · simp at h
theorem frameB_len (p : List UInt8) : (frameB p).length = (uvar p.length).length + 4 + p.length := by simp [frameB, le4_len]; omega
theorem unfr_frame (p more : List UInt8) (h : p.length ≤ 16777216) : unfr (frameB p ++ more) = .ok (p, (frameB p).length) := by
  have e : frameB p ++ more = uvar p.length ++ (le4 (maskN (ext 0 p)) ++ (p ++ more)) := by simp [frameB]
  have hd : (frameB p ++ more).drop (uvar p.length).length = le4 (maskN (ext 0 p)) ++ (p ++ more) := by rw [e, List.drop_left]
  have hd4 : (frameB p ++ more).drop ((uvar p.length).length + 4) = p ++ more := by
    rw [← List.drop_drop, hd]
    exact List.drop_left (l₁ := le4 (maskN (ext 0 p)))
  have hr : readU (frameB p ++ more) = .ok (p.length, (uvar p.length).length) := by rw [e, readU_uvar _ _ (by omega)]
  have hn : (frameB p ++ more).length = (uvar p.length).length + 4 + p.length + more.length := by rw [List.length_append, frameB_len]
  unfold unfr
  rw [hr]
  simp only
  rw [hd, hd4, hn]
  rw [if_neg (by omega), List.take_left' rfl]
  rw [if_pos (List.take_left' (le4_len _)).symm, frameB_len]
/-- **a frame with a byte turned never tells the same payload** -/
theorem unfr_turned (p : List UInt8) (i : Nat) (y : UInt8) (hi : i < (frameB p).length) (hy : y ≠ 0) (q : List UInt8) (k : Nat) (h : unfr ((frameB p).set i ((frameB p)[i] ^^^ y)) = .ok (q, k)) : q ≠ p := fun e => by
  subst e
  obtain ⟨h1, h2, _⟩ := unfr_once h
  have hk : k = (frameB q).length := by
    have := congrArg List.length h1
    rw [List.length_take] at this
    omega
  rw [hk, List.take_of_length_le (by rw [List.length_set]; exact Nat.le_refl _)] at h1
  have h3 : ((frameB q).set i ((frameB q)[i] ^^^ y))[i]'(by rw [List.length_set]; exact hi) = (frameB q)[i] := by simp only [h1]
  rw [List.getElem_set_self] at h3
  refine hy ?_
  have h4 : (frameB q)[i] ^^^ ((frameB q)[i] ^^^ y) = (frameB q)[i] ^^^ (frameB q)[i] := by rw [h3]
  rw [← UInt8.xor_assoc, UInt8.xor_self, UInt8.zero_xor] at h4
  exact h4

end Go.Proofs.Ytdnhpmdmkdgmpaa
