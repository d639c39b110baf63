/-
  What a filter of keys is, as a list of bytes; lemmas on it. No program in sight. No condition.
-/
import Derived.Test.YtkkjfehnkhhafaaMay
namespace Go.Proofs.Ytkkjfehnkhhafaa
open Go.RowKit

def setBit (bs : List UInt8) (p : Int) : List UInt8 := bs.set (p / 8).toNat (UInt8.ofNat ((bs.getD (p / 8).toNat 0).toNat ||| 2 ^ (p % 8).toNat))
theorem setBit_length (bs : List UInt8) (p : Int) : (setBit bs p).length = bs.length := by simp [setBit]
def setAll {nb : Nat} (bs : List UInt8) (ps : List (Place nb)) : List UInt8 := ps.foldl (fun bs p => setBit bs p.1) bs
theorem setAll_snoc {nb : Nat} (bs : List UInt8) (ps : List (Place nb)) (p : Place nb) : setAll bs (ps ++ [p]) = setBit (setAll bs ps) p.1 := by simp [setAll]
theorem setAll_length {nb : Nat} (ps : List (Place nb)) : ∀ bs : List UInt8, (setAll bs ps).length = bs.length := by
  induction ps with
  | nil => intro bs; rfl
  | cons p ps ih => intro bs; simp only [setAll, List.foldl_cons] at ih ⊢; rw [ih, setBit_length]
def fillAll (nb : Nat) (hb : 0 < nb) (many : Nat) (bs : List UInt8) (kss : List (List UInt8)) : List UInt8 := kss.foldl (fun bs ks => setAll bs (placesOf nb hb ks many)) bs
theorem fillAll_snoc (nb : Nat) (hb : 0 < nb) (many : Nat) (bs : List UInt8) (kss : List (List UInt8)) (ks : List UInt8) : fillAll nb hb many bs (kss ++ [ks]) = setAll (fillAll nb hb many bs kss) (placesOf nb hb ks many) := by simp [fillAll]
theorem fillAll_length (nb : Nat) (hb : 0 < nb) (many : Nat) (kss : List (List UInt8)) : ∀ bs : List UInt8, (fillAll nb hb many bs kss).length = bs.length := by
  induction kss with
  | nil => intro bs; rfl
  | cons ks kss ih => intro bs; simp only [fillAll, List.foldl_cons] at ih ⊢; rw [ih, setAll_length]

def wideOf (per n : Nat) : Nat := ((if per * n < 64 then 64 else per * n) + 7) / 8
theorem wideOf_pos (per n : Nat) : 8 ≤ wideOf per n := by unfold wideOf; split <;> omega
def errOf (per : Int) (n : Nat) : Int := if per < 1 then 1 else if 64 < per then 1 else if 16777216 < wideOf per.toNat n then 2 else 0
def bytesOf (per : Int) (kss : List (List UInt8)) : List UInt8 :=
  if errOf per kss.length = 0 then
    fillAll (8 * wideOf per.toNat kss.length) (by have := wideOf_pos per.toNat kss.length; omega) (probesOf per).toNat (List.replicate (wideOf per.toNat kss.length) 0) kss ++ [UInt8.ofNat (probesOf per).toNat]
  else []

theorem take_snoc' {α : Type} (l : List α) (k : Nat) (h : k < l.length) : l.take (k + 1) = l.take k ++ [l[k]] := by
  rw [List.take_succ_eq_append_getElem h]

/-- an 'or' on a byte, as the model reckons it -/
theorem or_bit (k : UInt8) (j : Nat) (hj : j < 8) : bits .or .u8 (k.toNat : Int) (2 ^ j % 256) = ((UInt8.ofNat (k.toNat ||| 2 ^ j)).toNat : Int) := by
  have hk := k.toNat_lt
  have h2 : 2 ^ j < 256 := Nat.lt_of_le_of_lt (Nat.pow_le_pow_right (by omega) (show j ≤ 7 by omega)) (by omega)
  have e : ((2 : Int) ^ j % 256) = ((2 ^ j : Nat) : Int) := by
    have : (2 : Int) ^ j = ((2 ^ j : Nat) : Int) := by simp
    rw [this]
    exact Int.emod_eq_of_lt (Int.natCast_nonneg _) (Int.ofNat_lt.2 h2)
  rw [e, or_u8_nat _ _ (by omega) h2]
  have hx : k.toNat ||| 2 ^ j < 2 ^ 8 := Nat.or_lt_two_pow (by omega) (by omega)
  rw [UInt8.toNat_ofNat_of_lt' (by simpa using hx)]

/-- a store of the new byte into the row -/
theorem set_row (bs : List UInt8) (i : Nat) (v : UInt8) (hi : i < bs.length) : (((bs ++ [0]).map b8).toArray.setIfInBounds i (b8 v)) = ((bs.set i v ++ [0]).map b8).toArray := by
  simp only [List.setIfInBounds_toArray, ← List.map_set, List.set_append_left _ _ hi]
theorem set_row0 (bs : List UInt8) (i : Nat) (v : UInt8) : ((bs.map b8).toArray.setIfInBounds i (b8 v)) = ((bs.set i v).map b8).toArray := by
  simp only [List.setIfInBounds_toArray, ← List.map_set]

end Go.Proofs.Ytkkjfehnkhhafaa
