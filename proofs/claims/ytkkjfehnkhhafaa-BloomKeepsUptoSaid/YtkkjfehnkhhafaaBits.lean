/-
  Which bits a filter has; the order of keys doesn't matter; each key is found. Plain mathematics, no program in sight. No condition.
-/
import Derived.Test.YtkkjfehnkhhafaaSpec
namespace Go.Proofs.Ytkkjfehnkhhafaa

theorem bitAt_testBit (bs : List UInt8) (q : Int) : bitAt bs q = (bs.getD (q / 8).toNat 0).toNat.testBit (q % 8).toNat := by
  unfold bitAt
  rw [Nat.testBit_eq_decide_div_mod_eq]
  rfl

theorem bitAt_set (bs : List UInt8) (p q : Int) (hp0 : 0 ≤ p) (hp1 : p < 8 * (bs.length : Int)) (hq0 : 0 ≤ q) : bitAt (setBit bs p) q = (bitAt bs q || (p == q)) := by
  rw [bitAt_testBit, bitAt_testBit]
  unfold setBit
  have hi : (p / 8).toNat < bs.length := by omega
  by_cases he : (q / 8).toNat = (p / 8).toNat
  · rw [he]
    rw [List.getD_eq_getElem?_getD, List.getElem?_set_self hi, Option.getD_some]
    have hb := (bs.getD (p / 8).toNat 0).toNat_lt
    have h2 : 2 ^ (p % 8).toNat < 2 ^ 8 := Nat.pow_lt_pow_right (by omega) (by omega)
    have hx : (bs.getD (p / 8).toNat 0).toNat ||| 2 ^ (p % 8).toNat < 2 ^ 8 := Nat.or_lt_two_pow (by omega) h2
    rw [UInt8.toNat_ofNat_of_lt' (by simpa using hx), Nat.testBit_or, Nat.testBit_two_pow]
    congr 1
    by_cases hpq : p = q
    · subst hpq; simp
    · have : ¬ (p % 8).toNat = (q % 8).toNat := by omega
      simp [this, hpq]
  · have hne : ¬ p = q := fun e => he (by rw [e])
    rw [List.getD_eq_getElem?_getD, List.getD_eq_getElem?_getD, List.getElem?_set_ne (fun e => he e.symm)]
    simp [hne]

theorem bitAt_all {nb : Nat} (ps : List (Place nb)) (q : Int) (hq0 : 0 ≤ q) : ∀ bs : List UInt8, (nb : Int) ≤ 8 * (bs.length : Int) → bitAt (setAll bs ps) q = (bitAt bs q || ps.any fun p => p.1 == q) := by
  induction ps with
  | nil => intro bs _; simp [setAll]
  | cons p ps ih =>
    intro bs hb
    obtain ⟨p, hp0, hp1⟩ := p
    have := ih (setBit bs p) (by rw [setBit_length]; exact hb)
    simp only [setAll, List.foldl_cons] at this ⊢
    rw [this, bitAt_set bs p q hp0 (by omega) hq0]
    simp [Bool.or_assoc]

theorem bitAt_fill (nb : Nat) (h0 : 0 < nb) (many : Nat) (q : Int) (hq0 : 0 ≤ q) (kss : List (List UInt8)) : ∀ bs : List UInt8, (nb : Int) ≤ 8 * (bs.length : Int) →
    bitAt (fillAll nb h0 many bs kss) q = (bitAt bs q || kss.any fun ks => (placesOf nb h0 ks many).any fun p => p.1 == q) := by
  induction kss with
  | nil => intro bs _; simp [fillAll]
  | cons ks kss ih =>
    intro bs hb
    have := ih (setAll bs (placesOf nb h0 ks many)) (by rw [setAll_length]; exact hb)
    simp only [fillAll, List.foldl_cons] at this ⊢
    rw [this, bitAt_all _ q hq0 bs hb]
    simp [Bool.or_assoc]

/-- two lists of bytes of one length with the same bits are one -/
theorem ext_bits {xs ys : List UInt8} (hl : xs.length = ys.length) (h : ∀ q : Int, 0 ≤ q → bitAt xs q = bitAt ys q) : xs = ys := by
  apply List.ext_getElem hl
  intro i h1 h2
  apply UInt8.toNat_inj.1
  apply Nat.eq_of_testBit_eq
  intro j
  by_cases hj : j < 8
  · have := h (8 * (i : Int) + (j : Int)) (by omega)
    rw [bitAt_testBit, bitAt_testBit] at this
    have e1 : ((8 * (i : Int) + (j : Int)) / 8).toNat = i := by omega
    have e2 : ((8 * (i : Int) + (j : Int)) % 8).toNat = j := by omega
    rw [e1, e2, List.getD_eq_getElem?_getD, List.getD_eq_getElem?_getD, List.getElem?_eq_getElem h1, List.getElem?_eq_getElem h2] at this
    simpa using this
  · have hp : 2 ^ 8 ≤ 2 ^ j := Nat.pow_le_pow_right (by omega) (by omega)
    rw [Nat.testBit_lt_two_pow (Nat.lt_of_lt_of_le xs[i].toNat_lt hp), Nat.testBit_lt_two_pow (Nat.lt_of_lt_of_le ys[i].toNat_lt hp)]

theorem fill_reverse (nb : Nat) (h0 : 0 < nb) (many : Nat) (bs : List UInt8) (hb : (nb : Int) ≤ 8 * (bs.length : Int)) (kss : List (List UInt8)) : fillAll nb h0 many bs kss.reverse = fillAll nb h0 many bs kss := by
  apply ext_bits
  · rw [fillAll_length, fillAll_length]
  · intro q hq
    rw [bitAt_fill nb h0 many q hq _ bs hb, bitAt_fill nb h0 many q hq _ bs hb, List.any_reverse]

theorem bytesOf_reverse (per : Int) (kss : List (List UInt8)) : bytesOf per kss.reverse = bytesOf per kss := by
  unfold bytesOf
  by_cases he : errOf per kss.length = 0
  · have hl : kss.reverse.length = kss.length := List.length_reverse
    rw [if_pos (by rw [hl]; exact he), if_pos he]
    congr 1
    have key : ∀ (n : Nat) (hn : n = kss.length) (h0 : 0 < 8 * wideOf per.toNat n) (h1 : 0 < 8 * wideOf per.toNat kss.length),
        fillAll (8 * wideOf per.toNat n) h0 (probesOf per).toNat (List.replicate (wideOf per.toNat n) 0) kss.reverse = fillAll (8 * wideOf per.toNat kss.length) h1 (probesOf per).toNat (List.replicate (wideOf per.toNat kss.length) 0) kss := by
      intro n hn h0 h1
      subst hn
      exact fill_reverse _ _ _ _ (by simp) _
    exact key _ hl _ _
  · rw [if_neg (by rw [List.length_reverse]; exact he), if_neg he]

theorem bitAt_append (xs ys : List UInt8) (q : Int) (hq0 : 0 ≤ q) (hq1 : q < 8 * (xs.length : Int)) : bitAt (xs ++ ys) q = bitAt xs q := by
  have : (q / 8).toNat < xs.length := by omega
  unfold bitAt
  rw [List.getD_eq_getElem?_getD, List.getD_eq_getElem?_getD, List.getElem?_append_left this]

theorem may_keeps (per : Int) (kss : List (List UInt8)) (ks : List UInt8) (hk : ks ∈ kss) (he : errOf per kss.length = 0) : mayOf (bytesOf per kss) ks = true := by
  have hw := wideOf_pos per.toNat kss.length
  have hb8 : 0 < 8 * wideOf per.toNat kss.length := by omega
  obtain ⟨X, hX⟩ : ∃ X, X = fillAll (8 * wideOf per.toNat kss.length) hb8 (probesOf per).toNat (List.replicate (wideOf per.toNat kss.length) 0) kss := ⟨_, rfl⟩
  have hXl : X.length = wideOf per.toNat kss.length := by rw [hX, fillAll_length, List.length_replicate]
  have hpr := probesOf_range per
  have hbytes : bytesOf per kss = X ++ [UInt8.ofNat (probesOf per).toNat] := by
    unfold bytesOf
    rw [if_pos he, hX]
  have hkb : (UInt8.ofNat (probesOf per).toNat).toNat = (probesOf per).toNat := UInt8.toNat_ofNat_of_lt' (show (probesOf per).toNat < 256 by omega)
  have hlen : (bytesOf per kss).length = wideOf per.toNat kss.length + 1 := by rw [hbytes]; simp [hXl]
  have hlast : (bytesOf per kss).getD ((bytesOf per kss).length - 1) 0 = UInt8.ofNat (probesOf per).toNat := by
    rw [hlen, Nat.add_sub_cancel, hbytes, ← hXl]
    simp
  rw [mayOf_eq hlen hb8 hlast (by rw [hkb]; omega), hkb]
  apply List.all_eq_true.2
  rintro ⟨p, hp0, hp1⟩ hp
  rw [hbytes, bitAt_append _ _ _ hp0 (by rw [hXl]; omega), hX, bitAt_fill _ _ _ _ hp0 _ _ (by simp)]
  have : (kss.any fun ks => (placesOf (8 * wideOf per.toNat kss.length) hb8 ks (probesOf per).toNat).any fun x => x.1 == p) = true := by
    apply List.any_eq_true.2
    exact ⟨ks, hk, List.any_eq_true.2 ⟨⟨p, hp0, hp1⟩, hp, by simp⟩⟩
  rw [this, Bool.or_true]

theorem err_small (per : Int) (n : Nat) (h0 : 1 ≤ per) (h1 : per ≤ 64) (hn : n ≤ 1048576) : errOf per n = 0 := by
  obtain ⟨p, rfl⟩ := Int.eq_ofNat_of_zero_le (show 0 ≤ per by omega)
  have hpn : p * n ≤ 64 * 1048576 := Nat.mul_le_mul (by omega) hn
  have hw : wideOf p n ≤ 16777216 := by unfold wideOf; split <;> omega
  unfold errOf
  rw [if_neg (by omega), if_neg (by omega), Int.toNat_natCast, if_neg (by omega)]

theorem bytes_short (per : Int) (kss : List (List UInt8)) (h0 : 1 ≤ per) (h1 : per ≤ 64) (hn : kss.length ≤ 1048576) : (bytesOf per kss).length ≤ 16777217 := by
  obtain ⟨p, rfl⟩ := Int.eq_ofNat_of_zero_le (show 0 ≤ per by omega)
  have hpn : p * kss.length ≤ 64 * 1048576 := Nat.mul_le_mul (by omega) hn
  have hw : wideOf p kss.length ≤ 16777216 := by unfold wideOf; split <;> omega
  unfold bytesOf
  split
  · rw [List.length_append, fillAll_length, List.length_replicate, Int.toNat_natCast]
    simp
    omega
  · simp

end Go.Proofs.Ytkkjfehnkhhafaa
