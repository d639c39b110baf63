/-
  The walk of awake: it answers true. No condition.
-/
import Derived.Test.YtkbjbjkgohkkjaaTws
import Derived.Lib.SlBytesConst
namespace Go.Proofs.Ytkbjbjkgohkkjaa
open Go.RowKit Go.Shelf

/-- a Put, seen from below the table -/
theorem put_below (T base : Nat) (tw : List Int) (ns : List Nd) (cnt : Nat) (hd : Nw) (ms : List Nw) (k v : Key) (A A2 : Option Addr) (n c n2 c2 : Nat) (w : World) (h : Tm w T base tw ns cnt false hd ms)
    (hk : Bs w w.heap.size A n c k) (hA : 0 < n → ∀ a, A = some a → a.block ≠ T) (hv : Bs w w.heap.size A2 n2 c2 v) (hA2 : 0 < n2 → ∀ a, A2 = some a → a.block ≠ T)
    (hc : cnt + cntN ns k ≤ 4611686018427387904) (hn : ns.length < 1048576) (hsz : sizeN ns ≤ 1000000000) (hkl : n ≤ 1000000) (hvl : n2 ≤ 1000000) (htw : tw.length ≤ 4611686018427387904) (hz : ∀ z ∈ tw, -9223372036854775808 ≤ z ∧ z ≤ 9223372036854775807)
    {N : List Nd} (hN : putN ns k v (towN tw ns.length) = N) {C : Nat} (hC : cnt + cntN ns k = C) {B : Nat} (hB : B ≤ base) (hB2 : B ≤ w.heap.size) :
    Calls Try.prog 11 #[.pointer (some ⟨T, 0, none⟩), .slice A n c, .slice A2 n2 c2] w fun e w' => e = .returned (.int .i64 0) ∧ (∃ ms', Tm w' T base tw N C false hd ms') ∧ Below B w w' := by
  have hf := h.sl
  have hl := h.low
  refine (put_any T base tw ns cnt hd ms k v A A2 n c n2 c2 w h hk hA hv hA2 hc hn hsz hkl hvl htw hz).mono ?_
  rintro e w' ⟨rfl, ⟨ms', h1, h2⟩, h3⟩
  subst hN
  subst hC
  exact ⟨rfl, ⟨ms', h1⟩, h3.below (fun g hg => by
    rcases hg with rfl | hg
    · omega
    · have := (hf.foot_kind hg).1; omega) hB2⟩

/-- a byte of a literal -/
theorem bs_lit1 (w : World) (x : UInt8) (z : Int) (hz : z = (x.toNat : Int)) (g : Nat) (hg : g = w.heap.size) : Bs (w.alloc (.cells #[.int .u8 z] 5 (1, 2))) (w.heap.size + 1) (some ⟨g, 0, none⟩) 1 1 [x] := by
  subst hz hg
  refine ⟨rfl, Nat.le_refl _, by omega, fun _ => ⟨w.heap.size, 0, rfl, by omega, fun j u hu => ?_⟩⟩
  match j, hu with
  | 0, hu =>
    simp [b8] at hu
    subst hu
    exact World.cell?_alloc_mark w #[.int .u8 (x.toNat : Int)] 5 (1, 2) 0
def aw0 : List Int := [1, 2]
def awN1 : List Nd := [⟨[98], [], 1⟩]
def awN2 : List Nd := [⟨[97], [], 2⟩, ⟨[98], [], 1⟩]
def awN3 : List Nd := [⟨[97], [], 2⟩, ⟨[98], [], 1⟩, ⟨[99], [120], 1⟩]
theorem aw_facts : putN [] [98] [] (towN aw0 0) = awN1 ∧ putN awN1 [97] [] (towN aw0 1) = awN2 ∧ putN awN2 [99] [120] (towN aw0 2) = awN3 ∧ cntN [] [98] = 0 ∧ cntN awN1 [97] = 1 ∧ cntN awN2 [99] = 2 ∧ cntN awN3 [99] = 3 ∧
    sizeN awN1 = 1 ∧ sizeN awN2 = 2 ∧ sizeN awN3 = 4 ∧ getN awN3 [99] = some [120] := by
  refine ⟨?_, ?_, ?_, ?_, ?_, ?_, ?_, ?_, ?_, ?_, ?_⟩ <;> rfl

set_option maxRecDepth 100000 in
set_option maxHeartbeats 4000000 in
theorem awake_any (w : World) : Calls Try.prog 8 #[] w fun e w' => e = .returned (.bool true) ∧ Below w.heap.size w w' := by
  obtain ⟨p1, p2, p3, q1, q2, q3, q4, s1, s2, s3, g3⟩ := aw_facts
  have P1 := hide p1
  have P2 := hide p2
  have P3 := hide p3
  have Q := hide (And.intro q1 (And.intro q2 (And.intro q3 q4)))
  have Ss := hide (And.intro s1 (And.intro s2 s3))
  have G3 := hide g3
  clear p1 p2 p3 q1 q2 q3 q4 s1 s2 s3 g3
  have hsl : Sl (w.alloc (.cells #[.int .i64 1, .int .i64 2] 3)) (w.heap.size + 1) (some ⟨w.heap.size, 0, none⟩) 2 2 (aw0.map iv) := by
    have hb := Blk.new w 3 #[.int .i64 1, .int .i64 2]
    refine ⟨rfl, Nat.le_refl _, by omega, fun _ => ⟨w.heap.size, 0, rfl, by omega, fun j u hu => ?_⟩⟩
    match j, hu with
    | 0, hu => simp [aw0, iv] at hu; subst hu; exact hb.cell 0
    | 1, hu => simp [aw0, iv] at hu; subst hu; exact hb.cell 1
  have hB0 := (Below.refl _ w).alloc (Nat.le_refl _) (.cells #[.int .i64 1, .int .i64 2] 3)
  have hs0 : (w.alloc (.cells #[.int .i64 1, .int .i64 2] 3)).heap.size = w.heap.size + 1 := by simp
  have kc := fun (w : World) (C : Array Value) (n c : Nat) => Lib.run_convert_bytes_const (P := Try.prog) w 22 5 C n c Try.underlying22 Try.underlying5
  have kd : ∀ (w : World) (m : Nat) (C : Array Value) (n c : Nat), (convert 22 22 (.slice (some ⟨w.heap.size, 0, none⟩) n c)).run Try.prog ((w.drewN m).alloc (.cells C 5)) = .ok (.slice (some ⟨w.heap.size, 0, none⟩) n c) ((w.drewN m).alloc (.cells C 5 (C.size, C.size + 1))) := fun w m C n c => kc (w.drewN m) C n c
  go_enter Try.func8, Try.ntmps8
  go_wp2_with fail
  generalize w.alloc (.cells #[.int .i64 1, .int .i64 2] 3) = w0 at *
  refine (new_any aw0 _ 2 2 _ w0 hsl (by omega) (by omega)).mono ?_
  rintro e w1 ⟨T, hd, rfl, ht1, hB1⟩
  have hb1 := hB0.trans (hB1.mono (by omega))
  have hs1 := hB1.size
  have hT1 := ht1.lt
  have hS0 := hide hs0
  obtain ⟨base, hbase⟩ : ∃ base, w0.heap.size = base := ⟨_, rfl⟩
  rw [hbase] at ht1 hs1
  have hwb : w.heap.size ≤ base := by omega
  clear hsl hB0 hB1 hs0 hbase
  -- Put b
  go_wp2_with fail
  have l1 := bs_lit1 w1 98 98 (by decide) _ rfl
  have t1 := ht1.alloc (.cells #[.int .u8 98] 5 (1, 2))
  have hb1' := hb1.alloc hb1.size (.cells #[.int .u8 98] 5 (1, 2))
  rw [show w1.heap.size + 1 = (w1.alloc (.cells #[.int .u8 98] 5 (1, 2))).heap.size by simp] at l1
  have hT' : 0 < 1 → ∀ a : Addr, some (⟨w1.heap.size, 0, none⟩ : Addr) = some a → a.block ≠ T := fun _ a e => by injection e with e; subst e; simp; omega
  have hw1' : base ≤ (w1.alloc (.cells #[.int .u8 98] 5 (1, 2))).heap.size := by simp; omega
  generalize w1.alloc (.cells #[.int .u8 98] 5 (1, 2)) = w1' at *
  refine (put_below T base aw0 [] 0 hd [] [98] [] _ none 1 1 0 0 w1' t1 l1 hT' (Bs.nil _ _ _ _) (fun h => by omega) (by rw [Q.out.1]; omega) (by simp) (by simp [sizeN]) (by omega) (by omega) (by simp [aw0]) (by simp [aw0]) P1.out (C := 0) (by rw [Q.out.1]) (B := w.heap.size) hwb (by omega)).mono ?_
  rintro e w2 ⟨rfl, ⟨ms2, ht2⟩, hB2⟩
  have hb2 := hb1'.trans hB2
  clear l1 hT' t1 hb1 hb1' hw1' ht1 hB2 hs1
  have hs2 := hb2.size
  have hT2 := ht2.lt
  have hl2 := ht2.low
  -- Put a
  go_wp2_with fail
  have l1 := bs_lit1 w2 97 97 (by decide) _ rfl
  have t1 := ht2.alloc (.cells #[.int .u8 97] 5 (1, 2))
  have hb2' := hb2.alloc hb2.size (.cells #[.int .u8 97] 5 (1, 2))
  rw [show w2.heap.size + 1 = (w2.alloc (.cells #[.int .u8 97] 5 (1, 2))).heap.size by simp] at l1
  have hT' : 0 < 1 → ∀ a : Addr, some (⟨w2.heap.size, 0, none⟩ : Addr) = some a → a.block ≠ T := fun _ a e => by injection e with e; subst e; simp; omega
  have hz2 : w.heap.size ≤ (w2.alloc (.cells #[.int .u8 97] 5 (1, 2))).heap.size := by simp; omega
  generalize w2.alloc (.cells #[.int .u8 97] 5 (1, 2)) = w2' at *
  refine (put_below T base aw0 awN1 0 hd ms2 [97] [] _ none 1 1 0 0 w2' t1 l1 hT' (Bs.nil _ _ _ _) (fun h => by omega) (by rw [Q.out.2.1]; omega) (by simp [awN1]) (by rw [Ss.out.1]; omega) (by omega) (by omega) (by simp [aw0]) (by simp [aw0]) P2.out (C := 1) (by rw [Q.out.2.1]) (B := w.heap.size) hwb hz2).mono ?_
  rintro e w3 ⟨rfl, ⟨ms3, ht3⟩, hB3⟩
  have hb3 := hb2'.trans hB3
  clear l1 hT' t1 hb2 hb2' ht2 hB3 hs2 hz2 hT2
  have hs3 := hb3.size
  have hT3 := ht3.lt
  -- Put c
  have kc2 := kc (w3.alloc (.cells #[.int .u8 99] 5 (1, 2))) #[.int .u8 120] 1 1
  rw [show (w3.alloc (.cells #[.int .u8 99] 5 (1, 2))).heap.size = w3.heap.size + 1 by simp] at kc2
  go_wp2_with fail
  have l1 := (bs_lit1 w3 99 99 (by decide) _ rfl).alloc (by simp) (.cells #[.int .u8 120] 5 (1, 2))
  have l2 := bs_lit1 (w3.alloc (.cells #[.int .u8 99] 5 (1, 2))) 120 120 (by decide) (w3.heap.size + 1) (by simp)
  have t1 := (ht3.alloc (.cells #[.int .u8 99] 5 (1, 2))).alloc (.cells #[.int .u8 120] 5 (1, 2))
  have hb3' := (hb3.alloc hb3.size (.cells #[.int .u8 99] 5 (1, 2))).alloc (by simp; omega) (.cells #[.int .u8 120] 5 (1, 2))
  have hsz : ((w3.alloc (.cells #[.int .u8 99] 5 (1, 2))).alloc (.cells #[.int .u8 120] 5 (1, 2))).heap.size = w3.heap.size + 1 + 1 := by simp
  rw [show (w3.alloc (.cells #[.int .u8 99] 5 (1, 2))).heap.size = w3.heap.size + 1 by simp] at l2
  rw [← hsz] at l2
  replace l1 := l1.more (B' := ((w3.alloc (.cells #[.int .u8 99] 5 (1, 2))).alloc (.cells #[.int .u8 120] 5 (1, 2))).heap.size) (by omega)
  have hT' : 0 < 1 → ∀ a : Addr, some (⟨w3.heap.size, 0, none⟩ : Addr) = some a → a.block ≠ T := fun _ a e => by injection e with e; subst e; simp; omega
  have hT'' : 0 < 1 → ∀ a : Addr, some (⟨w3.heap.size + 1, 0, none⟩ : Addr) = some a → a.block ≠ T := fun _ a e => by injection e with e; subst e; simp; omega
  have hz3 : w.heap.size ≤ ((w3.alloc (.cells #[.int .u8 99] 5 (1, 2))).alloc (.cells #[.int .u8 120] 5 (1, 2))).heap.size := by omega
  generalize (w3.alloc (.cells #[.int .u8 99] 5 (1, 2))).alloc (.cells #[.int .u8 120] 5 (1, 2)) = w3' at *
  refine (put_below T base aw0 awN2 1 hd ms3 [99] [120] _ _ 1 1 1 1 w3' t1 l1 hT' l2 hT'' (by rw [Q.out.2.2.1]; omega) (by simp [awN2]) (by rw [Ss.out.2.1]; omega) (by omega) (by omega) (by simp [aw0]) (by simp [aw0]) P3.out (C := 3) (by rw [Q.out.2.2.1]) (B := w.heap.size) hwb hz3).mono ?_
  rintro e w4 ⟨rfl, ⟨ms4, ht4⟩, hB4⟩
  have hb4 := hb3'.trans hB4
  clear l1 l2 hT' hT'' t1 hb3 hb3' ht3 hB4 hs3 hz3 hT3 hsz kc2
  have hs4 := hb4.size
  have hT4 := ht4.lt
  -- Steps
  go_wp2_with fail
  refine (steps_any T base aw0 awN3 3 false hd ms4 w4 ht4 (by omega)).mono ?_
  rintro e w' ⟨rfl, rfl⟩
  -- Get
  go_wp2_with fail
  have l1 := bs_lit1 w4 99 99 (by decide) _ rfl
  have t1 := ht4.alloc (.cells #[.int .u8 99] 5 (1, 2))
  have hb4' := hb4.alloc hb4.size (.cells #[.int .u8 99] 5 (1, 2))
  rw [show w4.heap.size + 1 = (w4.alloc (.cells #[.int .u8 99] 5 (1, 2))).heap.size by simp] at l1
  have hT' : 0 < 1 → ∀ a : Addr, some (⟨w4.heap.size, 0, none⟩ : Addr) = some a → a.block ≠ T := fun _ a e => by injection e with e; subst e; simp; omega
  have hz4 : w.heap.size ≤ (w4.alloc (.cells #[.int .u8 99] 5 (1, 2))).heap.size := by simp; omega
  generalize w4.alloc (.cells #[.int .u8 99] 5 (1, 2)) = w4' at *
  refine (get_any T base aw0 awN3 3 false hd ms4 [99] _ 1 1 w4' t1 l1 hT' (by rw [Q.out.2.2.2]; omega)).mono ?_
  rintro e w5 ⟨⟨v5, rfl, hm5⟩, hg5, ht5⟩
  rw [G3.out] at hm5 ⊢
  rw [Q.out.2.2.2] at ht5
  have hb5 := hb4'.trans ((Below.refl w.heap.size w4').grown hg5 hz4 (fun j ej => by injection ej with ej; omega))
  obtain ⟨A5, L5, c5, rfl, hL5, hbs5⟩ := Mine.bsL hm5 (by decide)
  obtain rfl : L5 = 1 := hL5
  clear l1 hT' t1 hb4 hb4' ht4 hg5 hz4 hT4 hm5
  have hs5 := hb5.size
  -- Towers
  go_wp2_with fail
  refine (towers_walk T base aw0 awN3 _ false hd ms4 w5 ht5 (by simp [awN3])).mono ?_
  rintro e w6 ⟨⟨v6, rfl, hm6⟩, hB6⟩
  have ht6 := ht5.below hB6 (Nat.le_refl _)
  have hbs6 := hbs5.below hB6
  have hb6 := hb5.trans (hB6.mono hs5)
  obtain ⟨A6, L6, c6, rfl, hL6, hsl6⟩ := hm6.sl (by simp [awN3])
  obtain rfl : L6 = 3 := hL6
  obtain ⟨g6, o6, rfl, hg6, hc6⟩ := hsl6.at_ (by omega)
  have k6 : w6.cell? ⟨g6, o6, none⟩ = some (.int .i64 2) := hc6 0 (by simp [awN3])
  have s6 : StrAt A5 1 c5 [120] w6 := strAt hbs6
  clear ht5 hbs5 hB6 hm6 hsl6 hc6 hbs6
  go_wp2_with fail
  refine (steps_any T base aw0 awN3 6 false hd ms4 w6 ht6 (by omega)).mono ?_
  rintro e w' ⟨rfl, rfl⟩
  go_wp2_with fail
  refine (len_any T base aw0 awN3 6 false hd ms4 w6 ht6 (by simp [awN3])).mono ?_
  rintro e w' ⟨rfl, rfl⟩
  rw [show ((awN3.length : Nat) : Int) = 3 from rfl]
  go_wp2_with fail
  refine (size_any T base aw0 awN3 6 false hd ms4 w6 ht6 (by rw [Ss.out.2.2]; omega)).mono ?_
  rintro e w' ⟨rfl, rfl⟩
  rw [Ss.out.2.2]
  go_wp2
  go_ret
  exact ⟨rfl, hb6⟩

end Go.Proofs.Ytkbjbjkgohkkjaa
