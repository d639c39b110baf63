/-
  The plain mathematics of this proof: the hash, the probes' number, the places of a key, the bits of a filter. No program in sight. No condition.
-/
import Derived.Laws.BitsAllLaws
import Derived.Laws.Entries
namespace Go.Proofs.Ytkkjfehnkhhafaa

/-! ### numbers of 32 bits -/
theorem wrap_u32 (n : Int) : IntKind.u32.wrap n = n % 4294967296 := by simp [IntKind.wrap, IntKind.bits, IntKind.signed]
theorem ofInt_u32 (a : Nat) (ha : a < 4294967296) : (BitVec.ofInt 32 (a : Int)).toNat = a := by
  rw [BitVec.ofInt_natCast, BitVec.toNat_ofNat]; exact Nat.mod_eq_of_lt (by omega)
theorem or_u32_nat (a b : Nat) (ha : a < 4294967296) (hb : b < 4294967296) : bits .or .u32 (a : Int) (b : Int) = ((a ||| b : Nat) : Int) := by
  have hx : a ||| b < 2 ^ 32 := Nat.or_lt_two_pow (by omega) (by omega)
  show IntKind.u32.wrap ((BitVec.ofInt 32 (a : Int) ||| BitVec.ofInt 32 (b : Int)).toNat : Int) = _
  rw [BitVec.toNat_or, ofInt_u32 a ha, ofInt_u32 b hb, wrap_u32]
  omega
theorem bits_u32_range (op : BinOp) (a b : Int) : 0 ≤ bits op .u32 a b ∧ bits op .u32 a b < 4294967296 := by
  have h : ∀ x : Int, 0 ≤ IntKind.u32.wrap x ∧ IntKind.u32.wrap x < 4294967296 := fun x => by rw [wrap_u32]; omega
  unfold bits
  split <;> first | exact h _ | (simp; done) | skip
  all_goals omega

/-- disjoint bits: or is plus -/
theorem or_add (k a b : Nat) (ha : a < 2 ^ k) : a ||| (b * 2 ^ k) = a + b * 2 ^ k := by
  have := Nat.two_pow_add_eq_or_of_lt ha b
  rw [Nat.or_comm, Nat.mul_comm b, ← this, Nat.add_comm]

def word4 (a b c d : UInt8) : Int := a.toNat + b.toNat * 256 + c.toNat * 65536 + d.toNat * 16777216

theorem or_word (a b c d : UInt8) :
    bits .or .u32 (bits .or .u32 (bits .or .u32 (a.toNat : Int) ((b.toNat : Int) * 256)) ((c.toNat : Int) * 65536)) ((d.toNat : Int) * 16777216) = word4 a b c d := by
  have ha := a.toNat_lt
  have hb := b.toNat_lt
  have hc := c.toNat_lt
  have hd := d.toNat_lt
  have e1 : ((b.toNat : Int) * 256) = ((b.toNat * 256 : Nat) : Int) := by omega
  have e2 : ((c.toNat : Int) * 65536) = ((c.toNat * 65536 : Nat) : Int) := by omega
  have e3 : ((d.toNat : Int) * 16777216) = ((d.toNat * 16777216 : Nat) : Int) := by omega
  rw [e1, or_u32_nat _ _ (by omega) (by omega), or_add 8 _ _ (by omega), e2, or_u32_nat _ _ (by omega) (by omega), or_add 16 _ _ (by omega), e3, or_u32_nat _ _ (by omega) (by omega), or_add 24 _ _ (by omega)]
  unfold word4
  omega

/-! ### the hash -/
def mixBy (d x : Int) : Int := bits .xor .u32 x (x / d)
def mulM (x : Int) : Int := x % 4294967296 * 3332679571 % 4294967296
def hmix (h w : Int) : Int := mixBy 65536 (mulM (h + w))
def le : List UInt8 → Int
  | [] => 0
  | a :: t => a.toNat + 256 * le t
def htail (h : Int) (l : List UInt8) : Int := if l = [] then h else mixBy 16777216 (mulM (h + le l))
def hashGo : Int → List UInt8 → Int
  | h, a :: b :: c :: d :: t => hashGo (hmix h (word4 a b c d)) t
  | h, l => htail h l
def hashStart (n : Int) : Int := bits .xor .u32 3164544308 (n % 4294967296 * 3332679571 % 4294967296)
def hash (l : List UInt8) : Int := hashGo (hashStart l.length) l

theorem hashGo_four (h : Int) (a b c d : UInt8) (t : List UInt8) : hashGo h (a :: b :: c :: d :: t) = hashGo (hmix h (word4 a b c d)) t := by
  rw [hashGo]
theorem hashGo_0 (h : Int) : hashGo h [] = h := by rw [hashGo] <;> simp [htail]
theorem hashGo_1 (h : Int) (a : UInt8) : hashGo h [a] = mixBy 16777216 (mulM (h + a.toNat)) := by rw [hashGo] <;> simp [htail, le]
theorem hashGo_2 (h : Int) (a b : UInt8) : hashGo h [a, b] = mixBy 16777216 (mulM (h + (a.toNat + b.toNat * 256))) := by
  rw [hashGo] <;> simp [htail, le]
  rw [Int.mul_comm]
theorem hashGo_3 (h : Int) (a b c : UInt8) : hashGo h [a, b, c] = mixBy 16777216 (mulM (h + (a.toNat + b.toNat * 256 + c.toNat * 65536))) := by
  rw [hashGo] <;> simp [htail, le]
  congr 2; omega
theorem swap2 (h a b : Int) : h + (a + b) = h + b + a := by omega
theorem swap3 (h a b c : Int) : h + (a + b + c) = h + c + b + a := by omega
theorem mixBy_range (d x : Int) : 0 ≤ mixBy d x ∧ mixBy d x < 4294967296 := by unfold mixBy; exact bits_u32_range _ _ _
theorem hmix_range (h w : Int) : 0 ≤ hmix h w ∧ hmix h w < 4294967296 := by unfold hmix; exact mixBy_range _ _
theorem hashStart_range (n : Int) : 0 ≤ hashStart n ∧ hashStart n < 4294967296 := by unfold hashStart; exact bits_u32_range _ _ _
theorem hashGo_range : ∀ (h : Int) (l : List UInt8), 0 ≤ h → h < 4294967296 → 0 ≤ hashGo h l ∧ hashGo h l < 4294967296
  | h, a :: b :: c :: d :: t, _, _ => by rw [hashGo_four]; exact hashGo_range _ t (hmix_range _ _).1 (hmix_range _ _).2
  | h, [], h0, h1 => by rw [hashGo_0]; exact ⟨h0, h1⟩
  | h, [a], _, _ => by rw [hashGo_1]; exact mixBy_range _ _
  | h, [a, b], _, _ => by rw [hashGo_2]; exact mixBy_range _ _
  | h, [a, b, c], _, _ => by rw [hashGo_3]; exact mixBy_range _ _
theorem hash_range (l : List UInt8) : 0 ≤ hash l ∧ hash l < 4294967296 := by
  unfold hash
  exact hashGo_range _ _ (hashStart_range _).1 (hashStart_range _).2

/-! ### bits of a byte -/
theorem wrap_u8 (n : Int) : IntKind.u8.wrap n = n % 256 := by simp [IntKind.wrap, IntKind.bits, IntKind.signed]
theorem ofInt_u8 (a : Nat) (ha : a < 256) : (BitVec.ofInt 8 (a : Int)).toNat = a := by
  rw [BitVec.ofInt_natCast, BitVec.toNat_ofNat]; exact Nat.mod_eq_of_lt (by omega)
theorem or_u8_nat (a b : Nat) (ha : a < 256) (hb : b < 256) : bits .or .u8 (a : Int) (b : Int) = ((a ||| b : Nat) : Int) := by
  have hx : a ||| b < 2 ^ 8 := Nat.or_lt_two_pow (by omega) (by omega)
  show IntKind.u8.wrap ((BitVec.ofInt 8 (a : Int) ||| BitVec.ofInt 8 (b : Int)).toNat : Int) = _
  rw [BitVec.toNat_or, ofInt_u8 a ha, ofInt_u8 b hb, wrap_u8]
  omega
theorem and_u8_nat (a b : Nat) (ha : a < 256) (hb : b < 256) : bits .and .u8 (a : Int) (b : Int) = ((a &&& b : Nat) : Int) := by
  have hx : a &&& b < 2 ^ 8 := Nat.and_lt_two_pow _ (by omega)
  show IntKind.u8.wrap ((BitVec.ofInt 8 (a : Int) &&& BitVec.ofInt 8 (b : Int)).toNat : Int) = _
  rw [BitVec.toNat_and, ofInt_u8 a ha, ofInt_u8 b hb, wrap_u8]
  omega
theorem shr_cast (k j : Nat) : (k : Int) / 2 ^ j = ((k / 2 ^ j : Nat) : Int) := by
  rw [Int.natCast_ediv]; simp
theorem bit_test (k : UInt8) (j : Nat) : (bits .and .u8 ((k.toNat : Int) / 2 ^ j) 1 == 0) = !((k.toNat / 2 ^ j) % 2 == 1) := by
  have hk := k.toNat_lt
  have hd : k.toNat / 2 ^ j < 256 := Nat.lt_of_le_of_lt (Nat.div_le_self _ _) (by omega)
  rw [shr_cast, show (1 : Int) = ((1 : Nat) : Int) from rfl, and_u8_nat _ _ hd (by omega), Nat.and_one_is_mod]
  generalize k.toNat / 2 ^ j = x at *
  rcases Nat.mod_two_eq_zero_or_one x with h | h <;> simp [h]
theorem bit_test_mod (k : UInt8) (j : Nat) : (((k.toNat : Int) / 2 ^ j) % 2 == 0) = !((k.toNat / 2 ^ j) % 2 == 1) := by
  rw [shr_cast]
  generalize k.toNat / 2 ^ j = x at *
  rcases Nat.mod_two_eq_zero_or_one x with h | h
  · have : ((x : Int) % 2) = 0 := by omega
    simp [h, this]
  · have : ((x : Int) % 2) = 1 := by omega
    simp [h, this]

theorem or_comm_u32 (a b : Int) : bits .or .u32 a b = bits .or .u32 b a := by
  unfold bits
  simp only [BitVec.or_comm (BitVec.ofInt IntKind.u32.bits a)]

end Go.Proofs.Ytkkjfehnkhhafaa
