/-
  Whole numbers as varints: how they are written and read, in plain Lean; the walks of codec.Int, readInt, ReadInt and of the reference's Int. Condition: the bytes read as such.
-/
import Derived.Test.YtdlbhppoknbnlaaReadF
import Derived.Laws.BitsAllLaws
import Derived.Laws.DeepNot64
namespace Go.Proofs.Ytdlbhppoknbnlaa
open Go.RowKit

def zig (i : Int) : Nat := if 0 ≤ i then (2 * i).toNat else (-2 * i - 1).toNat
def unzig (u : Nat) : Int := if u % 2 = 0 then ((u / 2 : Nat) : Int) else -((u / 2 : Nat) : Int) - 1
theorem zig_lt {i : Int} (h0 : -9223372036854775808 ≤ i) (h1 : i ≤ 9223372036854775807) : zig i < 18446744073709551616 := by unfold zig; split <;> omega
theorem unzig_zig (i : Int) : unzig (zig i) = i := by
  unfold unzig zig
  split <;> split <;> omega
theorem zig_unzig (u : Nat) : zig (unzig u) = u := by
  unfold unzig zig
  split <;> split <;> omega
theorem unzig_bounds {u : Nat} (h : u < 18446744073709551616) : -9223372036854775808 ≤ unzig u ∧ unzig u ≤ 9223372036854775807 := by
  unfold unzig
  split <;> omega

theorem xor_ones_u64 (a : Nat) (ha : a < 18446744073709551616) : bits .xor .u64 (a : Int) 18446744073709551615 = 18446744073709551615 - (a : Int) := by
  show IntKind.u64.wrap ((BitVec.ofInt 64 (a : Int) ^^^ BitVec.ofInt 64 18446744073709551615).toNat : Int) = _
  have h1 : BitVec.ofInt 64 18446744073709551615 = BitVec.allOnes 64 := by decide
  rw [h1, BitVec.xor_allOnes, BitVec.toNat_not, ofInt_u64 a (by omega)]
  simp [IntKind.wrap, IntKind.bits, IntKind.signed]
  omega
theorem xor_zero_u64 (a : Nat) (ha : a < 18446744073709551616) : bits .xor .u64 (a : Int) 0 = (a : Int) := by
  have := bits_xor_u64_nat a 0 ha (by omega)
  simpa using this
theorem xor_zero_i64 (a : Nat) (ha : a < 9223372036854775808) : bits .xor .i64 (a : Int) 0 = (a : Int) := by
  show IntKind.i64.wrap ((BitVec.ofInt 64 (a : Int) ^^^ BitVec.ofInt 64 0).toNat : Int) = _
  have h1 : BitVec.ofInt 64 0 = 0#64 := by decide
  rw [h1, BitVec.xor_zero, ofInt_u64 a (by omega)]
  simp [IntKind.wrap, IntKind.bits, IntKind.signed]
  omega
theorem xor_ones_i64 (a : Nat) (ha : a < 9223372036854775808) : bits .xor .i64 (a : Int) (-1) = -1 - (a : Int) := by
  show IntKind.i64.wrap ((BitVec.ofInt 64 (a : Int) ^^^ BitVec.ofInt 64 (-1)).toNat : Int) = _
  have h1 : BitVec.ofInt 64 (-1) = BitVec.allOnes 64 := by decide
  rw [h1, BitVec.xor_allOnes, BitVec.toNat_not, ofInt_u64 a (by omega)]
  simp [IntKind.wrap, IntKind.bits, IntKind.signed]
  omega

set_option maxRecDepth 100000 in
set_option maxHeartbeats 1000000 in
theorem int_any (i : Int) (h0 : -9223372036854775808 ≤ i) (h1 : i ≤ 9223372036854775807) (w : World) : Calls Try.prog 11 #[.int .i64 i] w (Gives w (uvar (zig i))) := by
  have hz := zig_lt h0 h1
  have e : bits BinOp.xor IntKind.u64 (IntKind.u64.wrap (IntKind.u64.wrap i * 2)) (IntKind.u64.wrap (i / 9223372036854775808)) = ((zig i : Nat) : Int) := by
    by_cases hi : 0 ≤ i
    · rw [show i / 9223372036854775808 = 0 by omega, show IntKind.u64.wrap (0 : Int) = 0 by decide, show IntKind.u64.wrap (IntKind.u64.wrap i * 2) = ((zig i : Nat) : Int) by rw [IntKind.wrap_u64, IntKind.wrap_u64]; unfold zig; rw [if_pos hi]; omega]
      exact xor_zero_u64 _ hz
    · have h2 : IntKind.u64.wrap (IntKind.u64.wrap i * 2) = ((18446744073709551615 - zig i : Nat) : Int) := by rw [IntKind.wrap_u64, IntKind.wrap_u64]; unfold zig at *; rw [if_neg hi] at *; omega
      rw [show i / 9223372036854775808 = -1 by omega, show IntKind.u64.wrap (-1 : Int) = 18446744073709551615 by decide, h2, xor_ones_u64 _ (by omega)]
      omega
  have He := hide e
  clear e
  go_enter Try.func11, Try.ntmps11
  go_wp2_with fail
  rw [He.out]
  refine (uint_any (zig i) hz w).mono ?_
  rintro e w1 ⟨v, rfl, hm, hB⟩
  go_wp2
  go_ret
  exact ⟨v, rfl, hm, hB⟩

set_option maxRecDepth 100000 in
set_option maxHeartbeats 1000000 in
theorem refint_any (i : Int) (h0 : -9223372036854775808 ≤ i) (h1 : i ≤ 9223372036854775807) (w : World) : Calls Try.prog 15 #[.int .i64 i] w (Gives w (uvar (zig i))) := by
  by_cases hi : 0 ≤ i
  · go_enter Try.func15, Try.ntmps15
    go_wp2_with fail
    rw [show (2 * i : Int) = ((zig i : Nat) : Int) by unfold zig; rw [if_pos hi]; omega]
    refine (refuint_any (zig i) (zig_lt h0 h1) w).mono ?_
    rintro e w1 ⟨v, rfl, hm, hB⟩
    go_wp2
    go_ret
    exact ⟨v, rfl, hm, hB⟩
  · go_enter Try.func15, Try.ntmps15
    go_wp2_with fail
    rw [show (2 * -(i + 1) + 1 : Int) = ((zig i : Nat) : Int) by unfold zig; rw [if_neg (by omega)]; omega]
    refine (refuint_any (zig i) (zig_lt h0 h1) w).mono ?_
    rintro e w1 ⟨v, rfl, hm, hB⟩
    go_wp2
    go_ret
    exact ⟨v, rfl, hm, hB⟩

theorem unzig_code (u : Nat) (hu : u < 18446744073709551616) : bits BinOp.xor IntKind.i64 (wrap64 ((u : Int) / 2)) (wrap64 (-wrap64 (bits BinOp.and IntKind.u64 (u : Int) 1))) = unzig u := by
  rw [and_one_u64 _ (by omega) (by omega)]
  have e1 : wrap64 ((u : Int) / 2) = ((u / 2 : Nat) : Int) := by rw [wrap64]; omega
  rw [e1]
  by_cases h : u % 2 = 0
  · rw [show ((u : Int) % 2) = 0 by omega, show wrap64 (-wrap64 0) = 0 by simp [wrap64], xor_zero_i64 _ (by omega)]
    unfold unzig
    rw [if_pos h]
  · rw [show ((u : Int) % 2) = 1 by omega, show wrap64 (-wrap64 1) = -1 by simp [wrap64], xor_ones_i64 _ (by omega)]
    unfold unzig
    rw [if_neg h]
    omega

def readI (b : List UInt8) : Except Int (Int × Nat) := match readU b with | .ok (u, k) => .ok (unzig u, k) | .error c => .error c

/-- what the thrower tells -/
def TellsI (r : Except Int (Int × Nat)) (e : Ending) : Prop :=
  match r with
  | .ok (v, n) => e = .returned (.tuple #[.int .i64 v, .int .i64 (n : Int)])
  | .error c => e = .panicked (failure c)
theorem readI_err {b : List UInt8} {c : Int} (h : readI b = .error c) : c = 20 ∨ c = 21 := by
  unfold readI at h
  split at h
  · simp at h
  · rename_i c' hc
    simp at h
    subst h
    exact readU_err hc

theorem readInt_any (b : List UInt8) (A : Option Addr) (n c B : Nat) (w : World) (h : Bs w B A n c b) : Calls Try.prog 51 #[.slice A n c] w fun e w' => TellsI (readI b) e ∧ w = w' := by
  go_enter Try.func51, Try.ntmps51
  go_wp2_with fail
  refine (readUint_any b A n c B w h).mono ?_
  rintro e w1 ⟨ht, rfl⟩
  unfold Tells at ht
  split at ht
  · rename_i v k hr
    subst ht
    have hI := hide (show readI b = .ok (unzig v, k) by simp [readI, hr])
    have he := hide (unzig_code v (readU_lt hr))
    go_wp2
    go_ret2
    rw [hI.out]
    exact ⟨by rw [← he.out]; rfl, rfl⟩
  · rename_i c' hr
    subst ht
    have hI : readI b = .error c' := by simp [readI, hr]
    refine ⟨rfl, ?_, rfl⟩
    rw [hI]
    rfl

def VI (b : List UInt8) (v : Value) (n : Int) (_ : World) : Prop := ∃ (x : Int) (k : Nat), readI b = .ok (x, k) ∧ v = .int .i64 x ∧ n = (k : Int)
def EI (b : List UInt8) (c : Int) : Prop := readI b = .error c

theorem throwsI (b : List UInt8) (A : Option Addr) (n c B H : Nat) (w : World) (h : Bs w B A n c b) (hc : w.cell? ⟨H, 0, none⟩ = some (.slice A n c)) :
    Calls Try.prog 50 #[.pointer (some ⟨H, 0, none⟩)] w (Throws w (VI b) (EI b)) := by
  go_enter Try.func50, Try.ntmps50
  go_wp2_with fail
  refine (readInt_any b A n c B w h).mono ?_
  rintro e w1 ⟨ht, rfl⟩
  unfold TellsI at ht
  split at ht
  · rename_i v k hr
    subst ht
    go_wp2
    go_ret2
    exact ⟨Below.refl _ _, .inl ⟨_, _, rfl, v, k, hr, rfl, rfl⟩⟩
  · rename_i c' hr
    subst ht
    exact ⟨rfl, Below.refl _ _, .inr ⟨c', rfl, hr⟩⟩

/-- a reading call's answer -/
def AnsI (r : Except Int (Int × Nat)) (e : Ending) : Prop :=
  match r with
  | .ok (v, n) => e = .returned (.tuple #[.int .i64 v, .int .i64 (n : Int), .int .i64 0])
  | .error c => e = .returned (.tuple #[.int .i64 0, .int .i64 0, .int .i64 c])

theorem readi_any (b : List UInt8) (A : Option Addr) (n c B : Nat) (w : World) (h : Bs w B A n c b) (hB : B ≤ w.heap.size) :
    Calls Try.prog 17 #[.slice A n c] w fun e w' => AnsI (readI b) e ∧ Below w.heap.size w w' := by
  have hmf : ∀ (fn : Fn) (first cap : Array Value) (w : World), (Instr.makeFunc fn first cap).run Try.prog w = .ok (.func fn first cap) w := fun _ _ _ _ => rfl
  go_enter Try.func17, Try.ntmps17
  go_wp2_with fail
  have hb := Blk.new w 24 #[.slice A n c]
  have h1 := h.alloc hB (.cells #[.slice A n c] 24)
  have hB1 := (Below.refl _ w).alloc (Nat.le_refl _) (.cells #[.slice A n c] 24)
  have hs1 : w.heap.size + 1 = (w.alloc (.cells #[.slice A n c] 24)).heap.size := by simp
  generalize w.alloc (.cells #[.slice A n c] 24) = w1 at *
  refine (read_i 50 #[.pointer (some ⟨w.heap.size, 0, none⟩)] (VI b) (EI b) w1 (fun args w => by simp [callFunc, Try.func50, Try.f50, go_sem]) (fun c hc => by have := readI_err hc; omega)
    (fun w' hb' _ => throwsI b A n c B w.heap.size w' (h1.below (hb'.mono (by omega))) ((hb.below hb' (by omega)).cell 0)) ⟨fun _ _ _ _ _ _ _ h => h, fun _ _ _ _ h => h⟩ (fun v n W ⟨x, k, _, e, _⟩ => ⟨_, e⟩)).mono ?_
  rintro e w2 ⟨hB2, h2⟩
  have hBf := hB1.trans (hB2.mono (by omega))
  rcases h2 with ⟨v, m, rfl, x, k, hr, rfl, rfl⟩ | ⟨c', hr, rfl⟩
  · go_wp2
    go_ret3
    exact ⟨by rw [hr]; rfl, hBf⟩
  · go_wp2
    go_ret3
    exact ⟨by rw [hr]; rfl, hBf⟩

end Go.Proofs.Ytdlbhppoknbnlaa
