/-
  The walks of the reference's Fixed; of readFixed, ReadFixed and the reference's. Condition: the bytes read as such.
-/
import Derived.Test.YtdlbhppoknbnlaaFix
namespace Go.Proofs.Ytdlbhppoknbnlaa
open Go.RowKit

theorem div_256 (n i : Nat) : n / 2 ^ (8 * i) / 256 = n / 2 ^ (8 * (i + 1)) := by
  rw [Nat.div_div_eq_div_mul, show 8 * (i + 1) = 8 * i + 8 by omega, Nat.pow_add]

set_option maxRecDepth 100000 in
set_option maxHeartbeats 2000000 in
theorem reffixed_any (n : Nat) (wide : Int) (hn : n < 18446744073709551616) (h0 : -9223372036854775808 ≤ wide) (h1 : wide ≤ 9223372036854775807) (w : World) :
    Calls Try.prog 13 #[.int .u64 (n : Int), .int .i64 wide] w (GivesB w (fixE n wide) (fixB n wide)) := by
  by_cases hE : wide < 1 ∨ 8 < wide
  · have e1 : fixE n wide = 1 := by unfold fixE; rw [if_pos (by omega)]
    have e2 : fixB n wide = [] := by unfold fixB; rw [if_pos e1]
    rw [e1, e2]
    clear e1 e2
    rcases hE with hE | hE
    · go_enter Try.func13, Try.ntmps13
      go_wp2
      go_ret2
      exact ⟨none, 0, 0, rfl, rfl, Bs.nil _ _ _ _, Below.refl _ _⟩
    · have hE' : ¬ wide < 1 := by omega
      go_enter Try.func13, Try.ntmps13
      go_wp2
      go_ret2
      exact ⟨none, 0, 0, rfl, rfl, Bs.nil _ _ _ _, Below.refl _ _⟩
  · obtain ⟨k, rfl⟩ : ∃ k : Nat, wide = (k : Int) := ⟨wide.toNat, by omega⟩
    have hk1 : 1 ≤ k := by omega
    have hk8 : k ≤ 8 := by omega
    have ha : ¬ (k : Int) < 1 := by omega
    have hb : ¬ (8 : Int) < (k : Int) := by omega
    clear hE
    by_cases hF : k < 8 ∧ n / 2 ^ (8 * k) ≠ 0
    · have e1 : fixE n k = 1 := by unfold fixE; rw [if_pos (by right; right; exact ⟨by omega, by simpa using hF.2⟩)]
      have e2 : fixB n k = [] := by unfold fixB; rw [if_pos e1]
      rw [e1, e2]
      clear e1 e2
      have hq : ((n : Int) / 2 ^ (8 * k) != 0) = true := by
        rw [show ((n : Int) / 2 ^ (8 * k)) = ((n / 2 ^ (8 * k) : Nat) : Int) by simp]
        have h2 := hF.2
        generalize n / 2 ^ (8 * k) = q at *
        simp
        exact h2
      have hk : (k : Int) < 8 := by omega
      clear hF
      go_enter Try.func13, Try.ntmps13
      go_wp2
      go_ret2
      exact ⟨none, 0, 0, rfl, rfl, Bs.nil _ _ _ _, Below.refl _ _⟩
    · have e1 : fixE n k = 0 := by unfold fixE; rw [if_neg (by rw [Int.toNat_natCast]; omega)]
      have e2 : fixB n k = fixL n k := by unfold fixB; rw [e1, if_neg (by omega), Int.toNat_natCast]
      rw [e1, e2]
      clear e1 e2
      have hcase : ((k : Int) < 8 ∧ ((n : Int) / 2 ^ (8 * k) != 0) = false) ∨ ¬ (k : Int) < 8 := by
        by_cases h8 : k < 8
        · left
          refine ⟨by omega, ?_⟩
          rw [show ((n : Int) / 2 ^ (8 * k)) = ((n / 2 ^ (8 * k) : Nat) : Int) by simp]
          have : n / 2 ^ (8 * k) = 0 := by
            rcases Nat.eq_zero_or_pos (n / 2 ^ (8 * k)) with h' | h'
            · exact h'
            · exact absurd ⟨h8, by omega⟩ hF
          rw [this]
          rfl
        · right; omega
      clear hF
      rcases hcase with ⟨hk, hq⟩ | hk
      all_goals
        go_enter Try.func13, Try.ntmps13
        go_wp2
        go_loopw [0, 6, 7] (fun t0 t6 t7 wq => ∃ (i m : Nat), i ≤ k ∧ t7 = .int .i64 (i : Int) ∧ t0 = .int .u64 (m : Int) ∧ m < 18446744073709551616 ∧ m = n / 2 ^ (8 * i) ∧ Mine 5 wq w.heap.size t6 (fixL n i) ∧ Below w.heap.size w wq) (fun _ _ t7 _ => k - (intOf t7).toNat)
        case atStart => exact ⟨0, n, by omega, rfl, rfl, hn, by simp, Mine.nil _ _ _, Below.refl _ _⟩
        case round =>
          obtain ⟨i, m, hi, rfl, rfl, hm, hme, hmine, hB⟩ := hrel
          have hs := hB.size
          have hme' := hide hme
          clear hme
          by_cases hik : i < k
          · obtain ⟨v', w3, hr, hm3, hg3, _⟩ := append_mine (P := Try.prog) 24 Try.underlying24 info5 (hmine.alloc (.cells #[.int .u8 ((m : Int) % 256)] 5)) (by simp; omega) (bs_new wr 5 (UInt8.ofNat m) ((m : Int) % 256) (by rw [UInt8.toNat_ofNat']; simp)) (by rw [fixL_len]; omega)
            have hB3 : Below w.heap.size w w3 := (hB.alloc hs _).trans ((hmine.alloc _).grown hg3 (Nat.le_refl _) (by simp; omega))
            rw [hme'.out, ← fixL_succ] at hm3
            clear hmine hg3
            go_wp2_with (at_builtin; refine wpList_append_run rfl _ _ 24 rfl _ _ _ rfl rfl hr ?_)
            go_roundw
            case rel => exact ⟨i + 1, m / 256, by omega, by simp, by simp, by omega, by rw [hme'.out, div_256], hm3, hB3⟩
            case measure => simp [intOf]; omega
          · obtain rfl : i = k := by omega
            obtain ⟨A, L, c, rfl, hL, hbs⟩ := Mine.bsL hmine (by rw [fixL_len]; omega)
            go_wp2
            go_ret2
            exact ⟨A, _, c, rfl, hL, hbs, hB⟩

/-! ### reading -/
/-- the number that so many bytes say, the low byte first -/
def leN (b : List UInt8) : Nat → Nat
  | 0 => 0
  | k + 1 => leN b k + (b.getD k 0).toNat * 2 ^ (8 * k)
theorem leN_lt (b : List UInt8) : ∀ k, leN b k < 2 ^ (8 * k)
  | 0 => by simp [leN]
  | k + 1 => by
    have ih := leN_lt b k
    have hx := (b.getD k 0).toNat_lt
    rw [leN, show 8 * (k + 1) = 8 * k + 8 by omega, Nat.pow_add, show (2 : Nat) ^ 8 = 256 by decide]
    generalize 2 ^ (8 * k) = p at *
    have : (b.getD k 0).toNat * p ≤ 255 * p := Nat.mul_le_mul_right p (by omega)
    omega
theorem pow8_le {k : Nat} (h : k ≤ 8) : (2 : Nat) ^ (8 * k) ≤ 18446744073709551616 := by
  have : (2 : Nat) ^ 64 = 18446744073709551616 := by decide +kernel
  rw [← this]
  exact Nat.pow_le_pow_right (by omega) (by omega)

def readX (b : List UInt8) (wide : Int) : Except Int (Nat × Nat) :=
  if wide < 1 ∨ 8 < wide then .error 1 else if (b.length : Int) < wide then .error 20 else .ok (leN b wide.toNat, wide.toNat)
theorem readX_err {b : List UInt8} {wide : Int} {c : Int} (h : readX b wide = .error c) : c = 1 ∨ c = 20 := by
  unfold readX at h
  split at h
  · simp at h; omega
  · split at h
    · simp at h; omega
    · simp at h

/-- one byte more -/
theorem step_le (b : List UInt8) (i : Nat) (hi : i < 8) (x : UInt8) (hx : b.getD i 0 = x) :
    bits BinOp.or IntKind.u64 (leN b i : Int) (IntKind.u64.wrap ((x.toNat : Int) * 2 ^ (8 * i))) = ((leN b (i + 1) : Nat) : Int) := by
  have h1 := leN_lt b i
  have h2 := leN_lt b (i + 1)
  have h3 := pow8_le (show i + 1 ≤ 8 by omega)
  have h4 : leN b (i + 1) = leN b i + x.toNat * 2 ^ (8 * i) := by rw [leN, hx]
  have hc : ((x.toNat : Nat) : Int) * 2 ^ (8 * i) = ((x.toNat * 2 ^ (8 * i) : Nat) : Int) := by simp
  rw [hc, wrap_u64_nat _ (by omega), or_u64_nat _ _ (by omega) (by omega), or_add _ _ _ h1, h4]

set_option maxRecDepth 100000 in
set_option maxHeartbeats 2000000 in
theorem readFixed_any (b : List UInt8) (wide : Int) (A : Option Addr) (n c B : Nat) (w : World) (h : Bs w B A n c b) (h0 : -9223372036854775808 ≤ wide) (h1 : wide ≤ 9223372036854775807) :
    Calls Try.prog 64 #[.slice A n c, .int .i64 wide] w fun e w' => Tells (readX b wide) e ∧ w = w' := by
  have hr := h.reach
  have hlen := h.len
  by_cases hE : wide < 1 ∨ 8 < wide
  · have hX : readX b wide = .error 1 := by unfold readX; rw [if_pos hE]
    rw [hX]
    clear hlen hX
    rcases hE with hE | hE
    · go_enter Try.func64, Try.ntmps64
      go_wp2_with fail
      refine (must_false _ _).mono ?_
      rintro e w1 ⟨rfl, rfl⟩
      exact ⟨rfl, rfl, rfl⟩
    · have hE' : (1 : Int) ≤ wide := by omega
      go_enter Try.func64, Try.ntmps64
      go_wp2_with fail
      rw [decide_eq_false (show ¬ wide ≤ 8 by omega)]
      refine (must_false _ _).mono ?_
      rintro e w1 ⟨rfl, rfl⟩
      exact ⟨rfl, rfl, rfl⟩
  · obtain ⟨k, rfl⟩ : ∃ k : Nat, wide = (k : Int) := ⟨wide.toNat, by omega⟩
    have hk1 : 1 ≤ k := by omega
    have hk8 : k ≤ 8 := by omega
    have ha : (1 : Int) ≤ (k : Int) := by omega
    have hb : (k : Int) ≤ 8 := by omega
    by_cases hF : n < k
    · have hX : readX b k = .error 20 := by unfold readX; rw [if_neg hE, hlen, if_pos (by omega)]
      rw [hX]
      clear hlen hX hE
      go_enter Try.func64, Try.ntmps64
      go_wp2_with fail
      refine (must_true _ _).mono ?_
      rintro e w1 ⟨rfl, rfl⟩
      go_wp2_with fail
      rw [decide_eq_false (show ¬ k ≤ n by omega)]
      refine (must_false _ _).mono ?_
      rintro e w1 ⟨rfl, rfl⟩
      exact ⟨rfl, rfl, rfl⟩
    · have hX : readX b k = .ok (leN b k, k) := by unfold readX; rw [if_neg hE, hlen, if_neg (by omega), Int.toNat_natCast]
      rw [hX]
      have hlen' := hide hlen
      clear hX hE hlen
      have hkn : (k : Int) ≤ (n : Int) := by omega
      obtain ⟨bk, off, rfl, hbk, hc⟩ := h.at_ (by omega)
      go_enter Try.func64, Try.ntmps64
      go_wp2_with fail
      refine (must_true _ _).mono ?_
      rintro e w1 ⟨rfl, rfl⟩
      go_wp2_with fail
      refine (must_true _ _).mono ?_
      rintro e w1 ⟨rfl, rfl⟩
      go_wp2
      go_loop [6, 21] (fun t6 t21 => ∃ i : Nat, i ≤ k ∧ t21 = .int .i64 (i : Int) ∧ t6 = .int .u64 ((leN b i : Nat) : Int)) (fun _ t21 => k - (intOf t21).toNat)
      case atStart => exact ⟨0, by omega, rfl, rfl⟩
      case round =>
        obtain ⟨i, hi, rfl, rfl⟩ := hrel
        by_cases hik : i < k
        · have hib : i < b.length := by rw [hlen'.out]; omega
          have hci := hc i hib
          have hst := step_le b i (by omega) b[i] (by rw [List.getD_eq_getElem?_getD, List.getElem?_eq_getElem hib]; rfl)
          have hx := u8_lt b[i]
          clear hc
          generalize b[i] = x at *
          generalize leN b i = y at *
          go_wp2
          go_round
          case rel => exact ⟨i + 1, by omega, by simp, rfl⟩
          case measure => simp [intOf]; omega
        · obtain rfl : i = k := by omega
          go_wp2
          go_ret2
          exact ⟨rfl, rfl⟩

/-! ### ReadFixed -/
def VX (b : List UInt8) (wide : Int) (v : Value) (n : Int) (_ : World) : Prop := ∃ x k : Nat, readX b wide = .ok (x, k) ∧ v = .int .u64 (x : Int) ∧ n = (k : Int)
def EX (b : List UInt8) (wide : Int) (c : Int) : Prop := readX b wide = .error c

theorem throwsX (b : List UInt8) (wide : Int) (A : Option Addr) (n c B H : Nat) (w : World) (h : Bs w B A n c b) (h0 : -9223372036854775808 ≤ wide) (h1 : wide ≤ 9223372036854775807) (hc : w.cell? ⟨H, 0, none⟩ = some (.slice A n c)) (hc1 : w.cell? ⟨H + 1, 0, none⟩ = some (.int .i64 wide)) :
    Calls Try.prog 71 #[.pointer (some ⟨H, 0, none⟩), .pointer (some ⟨H + 1, 0, none⟩)] w (Throws w (VX b wide) (EX b wide)) := by
  go_enter Try.func71, Try.ntmps71
  go_wp2_with fail
  refine (readFixed_any b wide A n c B w h h0 h1).mono ?_
  rintro e w1 ⟨ht, rfl⟩
  unfold Tells at ht
  split at ht
  · rename_i v k hr
    subst ht
    go_wp2
    go_ret2
    exact ⟨Below.refl _ _, .inl ⟨_, _, rfl, v, k, hr, rfl, rfl⟩⟩
  · rename_i c' hr
    subst ht
    exact ⟨rfl, Below.refl _ _, .inr ⟨c', rfl, hr⟩⟩

theorem readx_any (b : List UInt8) (wide : Int) (A : Option Addr) (n c B : Nat) (w : World) (h : Bs w B A n c b) (hB : B ≤ w.heap.size) (h0 : -9223372036854775808 ≤ wide) (h1 : wide ≤ 9223372036854775807) :
    Calls Try.prog 42 #[.slice A n c, .int .i64 wide] w fun e w' => AnsU (readX b wide) e ∧ Below w.heap.size w w' := by
  have hmf : ∀ (fn : Fn) (first cap : Array Value) (w : World), (Instr.makeFunc fn first cap).run Try.prog w = .ok (.func fn first cap) w := fun _ _ _ _ => rfl
  go_enter Try.func42, Try.ntmps42
  go_wp2_with fail
  have hb := (Blk.new w 24 #[.slice A n c]).alloc (.cells #[.int .i64 wide] 3)
  have hb1 := Blk.new (w.alloc (.cells #[.slice A n c] 24)) 3 #[.int .i64 wide]
  rw [World.size_alloc] at hb1
  have hx := (h.alloc hB (.cells #[.slice A n c] 24)).alloc (by simp; omega) (.cells #[.int .i64 wide] 3)
  have hB1 := ((Below.refl _ w).alloc (Nat.le_refl _) (.cells #[.slice A n c] 24)).alloc (by simp) (.cells #[.int .i64 wide] 3)
  have hs1 : w.heap.size + 1 + 1 = ((w.alloc (.cells #[.slice A n c] 24)).alloc (.cells #[.int .i64 wide] 3)).heap.size := by simp
  generalize ((w.alloc (.cells #[.slice A n c] 24)).alloc (.cells #[.int .i64 wide] 3)) = w1 at *
  refine (read_u 71 #[.pointer (some ⟨w.heap.size, 0, none⟩), .pointer (some ⟨w.heap.size + 1, 0, none⟩)] (VX b wide) (EX b wide) w1 (fun args w => by simp [callFunc, Try.func71, Try.f71, go_sem]) (fun c hc => by have := readX_err hc; omega)
    (fun w' hb' _ => throwsX b wide A n c B w.heap.size w' (hx.below (hb'.mono (by omega))) h0 h1 ((hb.below hb' (by omega)).cell 0) ((hb1.below hb' (by omega)).cell 0)) ⟨fun _ _ _ _ _ _ _ h => h, fun _ _ _ _ h => h⟩ (fun v n W ⟨x, k, _, e, _⟩ => ⟨_, e⟩)).mono ?_
  rintro e w2 ⟨hB2, h2⟩
  have hBf := hB1.trans (hB2.mono (by omega))
  rcases h2 with ⟨v, m, rfl, x, k, hr, rfl, rfl⟩ | ⟨c', hr, rfl⟩
  · go_wp2
    go_ret3
    exact ⟨by rw [hr]; rfl, hBf⟩
  · go_wp2
    go_ret3
    exact ⟨by rw [hr]; rfl, hBf⟩

/-- from the top: what is read, and what is still to read -/
theorem top_step (b : List UInt8) (i k m : Nat) (hi : i < k) (hk : k ≤ 8) (x : UInt8) (hx : b.getD i 0 = x) (he : m * 2 ^ (8 * (i + 1)) + leN b (i + 1) = leN b k) :
    (m * 256 + x.toNat) * 2 ^ (8 * i) + leN b i = leN b k ∧ m * 256 + x.toNat < 18446744073709551616 := by
  have hl := leN_lt b k
  have h8 := pow8_le hk
  rw [leN, hx, show 8 * (i + 1) = 8 * i + 8 by omega, Nat.pow_add, show (2 : Nat) ^ 8 = 256 by decide] at he
  have h1 : (m * 256 + x.toNat) * 2 ^ (8 * i) + leN b i = leN b k := by
    rw [← he, Nat.add_mul, Nat.mul_assoc, Nat.mul_comm 256]
    omega
  refine ⟨h1, ?_⟩
  have hp : 0 < 2 ^ (8 * i) := Nat.pow_pos (by omega)
  have := Nat.le_mul_of_pos_right (m * 256 + x.toNat) hp
  omega

set_option maxRecDepth 100000 in
set_option maxHeartbeats 2000000 in
theorem refreadx_any (b : List UInt8) (wide : Int) (A : Option Addr) (n c B : Nat) (w : World) (h : Bs w B A n c b) (h0 : -9223372036854775808 ≤ wide) (h1 : wide ≤ 9223372036854775807) :
    Calls Try.prog 43 #[.slice A n c, .int .i64 wide] w fun e w' => AnsU (readX b wide) e ∧ w = w' := by
  have hr := h.reach
  have hlen := h.len
  by_cases hE : wide < 1 ∨ 8 < wide
  · have hX : readX b wide = .error 1 := by unfold readX; rw [if_pos hE]
    rw [hX]
    clear hlen hX
    rcases hE with hE | hE
    · go_enter Try.func43, Try.ntmps43
      go_wp2
      go_ret3
      exact ⟨rfl, rfl⟩
    · have hE' : ¬ wide < 1 := by omega
      go_enter Try.func43, Try.ntmps43
      go_wp2
      go_ret3
      exact ⟨rfl, rfl⟩
  · obtain ⟨k, rfl⟩ : ∃ k : Nat, wide = (k : Int) := ⟨wide.toNat, by omega⟩
    have hk1 : 1 ≤ k := by omega
    have hk8 : k ≤ 8 := by omega
    have ha : ¬ (k : Int) < 1 := by omega
    have hb : ¬ (8 : Int) < (k : Int) := by omega
    by_cases hF : n < k
    · have hX : readX b k = .error 20 := by unfold readX; rw [if_neg hE, hlen, if_pos (by omega)]
      rw [hX]
      clear hlen hX hE
      have hkn : (n : Int) < (k : Int) := by omega
      go_enter Try.func43, Try.ntmps43
      go_wp2
      go_ret3
      exact ⟨rfl, rfl⟩
    · have hX : readX b k = .ok (leN b k, k) := by unfold readX; rw [if_neg hE, hlen, if_neg (by omega), Int.toNat_natCast]
      rw [hX]
      have hlen' := hide hlen
      clear hX hE hlen
      have hkn : ¬ (n : Int) < (k : Int) := by omega
      obtain ⟨bk, off, rfl, hbk, hc⟩ := h.at_ (by omega)
      go_enter Try.func43, Try.ntmps43
      go_wp2
      go_loop [7, 8] (fun t7 t8 => ∃ i m : Nat, i ≤ k ∧ t8 = .int .i64 ((i : Int) - 1) ∧ t7 = .int .u64 (m : Int) ∧ m < 18446744073709551616 ∧ m * 2 ^ (8 * i) + leN b i = leN b k) (fun _ t8 => (intOf t8 + 1).toNat)
      case atStart => exact ⟨k, 0, by omega, rfl, rfl, by omega, by simp⟩
      case round =>
        obtain ⟨i, m, hi, rfl, rfl, hm, he⟩ := hrel
        cases i with
        | zero =>
          simp [leN] at he
          subst he
          go_wp2
          go_ret3
          exact ⟨rfl, rfl⟩
        | succ i =>
          have hib : i < b.length := by rw [hlen'.out]; omega
          have hci := hc i hib
          have hst := top_step b i k m (by omega) hk8 b[i] (by rw [List.getD_eq_getElem?_getD, List.getElem?_eq_getElem hib]; rfl) he
          have hx := u8_lt b[i]
          clear hc
          generalize b[i] = x at *
          obtain ⟨he2, hm2⟩ := hst
          have He := hide he2
          clear he he2
          go_wp2
          go_round
          case rel => exact ⟨i, m * 256 + x.toNat, by omega, by simp, by simp, hm2, He.out⟩
          case measure => simp [intOf]

end Go.Proofs.Ytdlbhppoknbnlaa
