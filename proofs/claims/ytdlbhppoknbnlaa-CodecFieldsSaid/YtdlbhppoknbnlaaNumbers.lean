/-
  The walk of the law CodecNumbers: it answers true. Condition: the bytes read as such.
-/
import Derived.Test.YtdlbhppoknbnlaaPlain
import Derived.Test.YtdlbhppoknbnlaaFixR
namespace Go.Proofs.Ytdlbhppoknbnlaa
open Go.RowKit

section
variable {P : Program}
theorem run_cutTo (t e : TypeId) (ht : P.underlying t = some (.slice e)) (hs : ∀ w : World, (sizeOf e).run P w = .ok 1 w) (A : Option Addr) (n c : Nat) (k : IntKind) (j : Int) (h0 : 0 ≤ j) (h2 : j ≤ c) (w : World) :
    (Instr.slice t (.slice A n c) none (some (.int k j)) none).run P w = .ok (.slice A j.toNat c) w := by
  have hj := run_sliceBound (P := P) (w := w) k j c .sliceAcap h0 h2
  simp [Instr.slice, run_underlying ht, Instr.sliceBounds, hj, hs, Result.andThen]
  intro _
  cases A <;> simp [Addr.add]
end

/-- a slice's bytes as a string, at a world -/
abbrev StrAt (A : Option Addr) (L c : Nat) (ks : List UInt8) (W : World) : Prop := (convert 24 9 (.slice A L c)).run Try.prog W = .ok (.string ⟨ks.toArray⟩) W
theorem strAt {w : World} {B : Nat} {A : Option Addr} {n c : Nat} {ks : List UInt8} (h : Bs w B A n c ks) : StrAt A n c ks w := run_str (P := Try.prog) 24 5 9 Try.underlying24 Try.underlying5 Try.underlying9 h

/-- append(append([]byte(nil), a...), b...) -/
theorem append_two {w : World} {B : Nat} {A1 A2 : Option Addr} {n1 c1 n2 c2 : Nat} {k1 k2 : List UInt8} (h1 : Bs w B A1 n1 c1 k1) (h2 : Bs w B A2 n2 c2 k2) (hB : B ≤ w.heap.size) (hl : n1 + n2 ≤ 1000000000) :
    ∃ v w1 A L c w2, (Builtin.append_ #[24, 24] 24 #[.slice none 0 0, .slice A1 n1 c1]).run Try.prog w = .ok v w1 ∧ (Builtin.append_ #[24, 24] 24 #[v, .slice A2 n2 c2]).run Try.prog w1 = .ok (.slice A L c) w2 ∧ Bs w2 w2.heap.size A L c (k1 ++ k2) ∧ Below w.heap.size w w2 := by
  have l1 := h1.len
  have l2 := h2.len
  obtain ⟨v, w1, hr1, hm1, hg1, _⟩ := append_mine (P := Try.prog) 24 Try.underlying24 info5 (Mine.nil 5 w w.heap.size) (Nat.le_refl _) h1 (by simp; omega)
  have hB1 : Below w.heap.size w w1 := (Mine.nil 5 w w.heap.size).grown hg1 (Nat.le_refl _) (Nat.le_refl _)
  rw [List.nil_append] at hm1
  obtain ⟨v2, w2, hr2, hm2, hg2, _⟩ := append_mine (P := Try.prog) 24 Try.underlying24 info5 hm1 hB1.size (h2.below (hB1.mono hB)) (by omega)
  have hB2 : Below w.heap.size w1 w2 := hm1.grown hg2 (Nat.le_refl _) hB1.size
  obtain ⟨A, L, c, rfl, _, hb⟩ := Mine.bsL hm2 (by rw [List.length_append]; omega)
  exact ⟨v, w1, A, L, c, w2, hr1, hr2, hb, hB1.trans hB2⟩

set_option maxRecDepth 100000 in
set_option maxHeartbeats 8000000 in
theorem numbers_any (n i wide : Int) (ks : List UInt8) (A : Option Addr) (l c : Nat) (w : World) (hn0 : 0 ≤ n) (hn1 : n ≤ 18446744073709551615) (hi0 : -9223372036854775808 ≤ i) (hi1 : i ≤ 9223372036854775807) (hw0 : -9223372036854775808 ≤ wide) (hw1 : wide ≤ 9223372036854775807) (h : Bs w w.heap.size A l c ks) :
    Calls Try.prog 4 #[.int .u64 n, .int .i64 i, .int .i64 wide, .slice A l c] w fun e w' => e = .returned (.bool true) ∧ Below w.heap.size w w' := by
  obtain ⟨n, rfl⟩ : ∃ m : Nat, n = (m : Int) := ⟨n.toNat, by omega⟩
  have hn : n < 18446744073709551616 := by omega
  have hlen := hide h.len
  go_enter Try.func4, Try.ntmps4
  go_wp2_with fail
  refine (awake_any w).mono ?_
  rintro e w0 ⟨rfl, hB0⟩
  by_cases hl : 2000 < l
  · have hl' : (2000 : Int) < (l : Int) := by omega
    go_wp2
    go_ret
    exact ⟨rfl, hB0⟩
  · have hl' : ¬ (2000 : Int) < (l : Int) := by omega
    have hb := h.below hB0
    go_wp2_with fail
    refine (uint_any n hn w0).mono ?_
    rintro e w1 ⟨v1, rfl, hm1, hB1⟩
    obtain ⟨A1, L1, c1, rfl, hL1, hb1⟩ := Mine.bsL hm1 (by have := uvar_len10 n hn; omega)
    have H1 := hide hL1
    clear hL1 hm1
    go_wp2_with fail
    refine (int_any i hi0 hi1 w1).mono ?_
    rintro e w2 ⟨v2, rfl, hm2, hB2⟩
    obtain ⟨A2, L2, c2, rfl, hL2, hb2⟩ := Mine.bsL hm2 (by have := uvar_len10 (zig i) (zig_lt hi0 hi1); omega)
    have H2 := hide hL2
    clear hL2 hm2
    go_wp2_with fail
    refine (fixed_any n wide hn hw0 hw1 w2).mono ?_
    rintro e w3 ⟨A3, L3, c3, rfl, hL3, hb3, hB3⟩
    clear hL3
    go_wp2_with fail
    refine (reffixed_any n wide hn hw0 hw1 w3).mono ?_
    rintro e w4 ⟨A4, L4, c4, rfl, hL4, hb4, hB4⟩
    clear hL4
    have s1 := hB1.size
    have s2 := hB2.size
    have s3 := hB3.size
    have s4 := hB4.size
    have hBw4 : Below w.heap.size w w4 := (((hB0.trans (hB1.mono hB0.size)).trans (hB2.mono (by have := hB0.size; omega))).trans (hB3.mono (by have := hB0.size; omega))).trans (hB4.mono (by have := hB0.size; omega))
    have hb' : Bs w4 w4.heap.size A l c ks := (h.below hBw4).more (by have := hBw4.size; omega)
    have hb1' : Bs w4 w4.heap.size A1 L1 c1 (uvar n) := (((hb1.below hB2).more s2 |>.below hB3).more s3 |>.below hB4).more s4
    have hb2' : Bs w4 w4.heap.size A2 L2 c2 (uvar (zig i)) := ((hb2.below hB3).more s3 |>.below hB4).more s4
    have hb3' : Bs w4 w4.heap.size A3 L3 c3 (fixB n wide) := (hb3.below hB4).more s4
    clear hb hb1 hb2 hb3 hB1 hB2 hB3 hB4 s1 s2 s3 s4 h hB0
    have G1 := hide (refuint_any n hn)
    have G2 := hide (refint_any i hi0 hi1)
    have hkeep : ∀ W, Below w4.heap.size w4 W → Below w4.heap.size w4 W ∧ StrAt A1 L1 c1 (uvar n) W ∧ StrAt A2 L2 c2 (uvar (zig i)) W ∧ StrAt A3 L3 c3 (fixB n wide) W ∧ StrAt A4 L4 c4 (fixB n wide) W := fun W hW =>
      ⟨hW, strAt (hb1'.below hW), strAt (hb2'.below hW), strAt (hb3'.below hW), strAt (hb4.below hW)⟩
    have Hkeep := hide hkeep
    clear hkeep
    generalize fixB n wide = F at *
    generalize fixE n wide = er at *
    have lu := uvar_len10 n hn
    have lz := uvar_len10 (zig i) (zig_lt hi0 hi1)
    go_wp2
    refine wp_region_held_drew (S := fun W => Below w4.heap.size w4 W ∧ StrAt A1 L1 c1 (uvar n) W ∧ StrAt A2 L2 c2 (uvar (zig i)) W ∧ StrAt A3 L3 c3 F W ∧ StrAt A4 L4 c4 F W) (by kernel_rfl) (Hkeep.out _ (below_drew w4)) (fun hHeld => ?_)
    refine wpAnyH_take (i := 0) (v := ?_) rfl (by kernel_rfl) (by kernel_rfl) (by kernel_rfl) (fun _ _ _ h => h) (Or.inl ⟨by kernel_rfl, ?_⟩) (by assumption) ?_
    rotate_left
    · (intro w hSw; (try dsimp only at hSw); go_simp; try with_reducible rfl)
    (try simp only [Act.put, List.getElem_toArray, List.getElem_cons_succ, List.getElem_cons_zero, List.setIfInBounds_toArray, List.set_cons_zero, List.set_cons_succ])
    refine wpAnyH_take (i := 1) (v := ?_) rfl (by kernel_rfl) (by kernel_rfl) (by kernel_rfl) (fun _ _ _ h => h) (Or.inl ⟨by kernel_rfl, ?_⟩) (by assumption) ?_
    rotate_left
    · (intro w hSw; (try dsimp only at hSw); go_simp; try with_reducible rfl)
    (try simp only [Act.put, List.getElem_toArray, List.getElem_cons_succ, List.getElem_cons_zero, List.setIfInBounds_toArray, List.set_cons_zero, List.set_cons_succ])
    refine wpAnyH_take (i := 2) (v := ?_) rfl (by kernel_rfl) (by kernel_rfl) (by kernel_rfl) (fun _ _ _ h => h) (Or.inl ⟨by kernel_rfl, ?_⟩) (by assumption) ?_
    rotate_left
    · (intro w hSw; (try dsimp only at hSw); go_simp; try with_reducible rfl)
    (try simp only [Act.put, List.getElem_toArray, List.getElem_cons_succ, List.getElem_cons_zero, List.setIfInBounds_toArray, List.set_cons_zero, List.set_cons_succ])
    refine wpAnyH_ready (rs := [3]) (by kernel_rfl) (by simp) (AllReadyH.cons rfl (fun K hK => ?_) AllReadyH.nil)
    go_simp
    refine Calls.mono (G1.out _) ?_
    rintro e w5 ⟨v5, rfl, hm5, hB5⟩
    obtain ⟨A5, L5, c5, rfl, hL5, hb5⟩ := Mine.bsL hm5 (by omega)
    clear hL5
    have hB5' := (below_drew w4).trans hB5
    have Q5 := Hkeep.out _ hB5'
    have t5 := strAt hb5
    refine hK.out _ _ (Q5) (fun hHeld => ?_)
    clear hK K
    (try simp only [Act.put, List.getElem_toArray, List.getElem_cons_succ, List.getElem_cons_zero, List.setIfInBounds_toArray, List.set_cons_zero, List.set_cons_succ])
    refine wpAnyH_ready (rs := [4]) (by kernel_rfl) (by simp) (AllReadyH.cons rfl (fun K hK => ?_) AllReadyH.nil)
    go_simp
    refine hK.out _ _ (Q5) (fun hHeld => ?_)
    clear hK K
    (try simp only [Act.put, List.getElem_toArray, List.getElem_cons_succ, List.getElem_cons_zero, List.setIfInBounds_toArray, List.set_cons_zero, List.set_cons_succ])
    refine wpAnyH_take (i := 5) (v := ?_) rfl (by kernel_rfl) (by kernel_rfl) (by kernel_rfl) (fun _ _ _ h => h) (Or.inl ⟨by kernel_rfl, ?_⟩) (by assumption) ?_
    rotate_left
    · (intro w hSw; (try dsimp only at hSw); go_simp; try with_reducible rfl)
    (try simp only [Act.put, List.getElem_toArray, List.getElem_cons_succ, List.getElem_cons_zero, List.setIfInBounds_toArray, List.set_cons_zero, List.set_cons_succ])
    refine wpAnyH_take (i := 6) (v := ?_) rfl (by kernel_rfl) (by kernel_rfl) (by kernel_rfl) (fun _ _ _ h => h) (Or.inl ⟨by kernel_rfl, ?_⟩) (by assumption) ?_
    rotate_left
    · (intro w hSw; (try dsimp only at hSw); go_simp; try with_reducible rfl)
    (try simp only [Act.put, List.getElem_toArray, List.getElem_cons_succ, List.getElem_cons_zero, List.setIfInBounds_toArray, List.set_cons_zero, List.set_cons_succ])
    refine wpAnyH_take (i := 7) (v := ?_) rfl (by kernel_rfl) (by kernel_rfl) (by kernel_rfl) (fun _ _ _ h => h) (Or.inl ⟨by kernel_rfl, ?_⟩) (by assumption) ?_
    rotate_left
    · (intro w hSw; (try dsimp only at hSw); go_simp; try with_reducible rfl)
    (try simp only [Act.put, List.getElem_toArray, List.getElem_cons_succ, List.getElem_cons_zero, List.setIfInBounds_toArray, List.set_cons_zero, List.set_cons_succ])
    refine wpAnyH_take (i := 8) (v := ?_) rfl (by kernel_rfl) (by kernel_rfl) (by kernel_rfl) (fun _ _ _ h => h) (Or.inl ⟨by kernel_rfl, ?_⟩) (by assumption) ?_
    rotate_left
    · (intro w hSw; (try dsimp only at hSw); go_simp; try with_reducible rfl)
    (try simp only [Act.put, List.getElem_toArray, List.getElem_cons_succ, List.getElem_cons_zero, List.setIfInBounds_toArray, List.set_cons_zero, List.set_cons_succ])
    refine wpAnyH_take (i := 9) (v := ?_) rfl (by kernel_rfl) (by kernel_rfl) (by kernel_rfl) (fun _ _ _ h => h) (Or.inl ⟨by kernel_rfl, ?_⟩) (by assumption) ?_
    rotate_left
    · (intro w hSw; (try dsimp only at hSw); go_simp; try with_reducible rfl)
    (try simp only [Act.put, List.getElem_toArray, List.getElem_cons_succ, List.getElem_cons_zero, List.setIfInBounds_toArray, List.set_cons_zero, List.set_cons_succ])
    refine wpAnyH_ready (rs := [10]) (by kernel_rfl) (by simp) (AllReadyH.cons rfl (fun K hK => ?_) AllReadyH.nil)
    go_simp
    refine Calls.mono (G2.out _) ?_
    rintro e w6 ⟨v6, rfl, hm6, hB6⟩
    obtain ⟨A6, L6, c6, rfl, hL6, hb6⟩ := Mine.bsL hm6 (by omega)
    clear hL6
    have hB6' := hB5'.trans (hB6.mono hB5'.size)
    have Q6 := Hkeep.out _ hB6'
    have t6 := strAt hb6
    refine hK.out _ _ (Q6) (fun hHeld => ?_)
    clear hK K
    (try simp only [Act.put, List.getElem_toArray, List.getElem_cons_succ, List.getElem_cons_zero, List.setIfInBounds_toArray, List.set_cons_zero, List.set_cons_succ])
    refine wpAnyH_ready (rs := [11]) (by kernel_rfl) (by simp) (AllReadyH.cons rfl (fun K hK => ?_) AllReadyH.nil)
    go_simp
    refine hK.out _ _ (Q6) (fun hHeld => ?_)
    clear hK K
    (try simp only [Act.put, List.getElem_toArray, List.getElem_cons_succ, List.getElem_cons_zero, List.setIfInBounds_toArray, List.set_cons_zero, List.set_cons_succ])
    refine wpAnyH_take (i := 12) (v := ?_) rfl (by kernel_rfl) (by kernel_rfl) (by kernel_rfl) (fun _ _ _ h => h) (Or.inl ⟨by kernel_rfl, ?_⟩) (by assumption) ?_
    rotate_left
    · (intro w hSw; (try dsimp only at hSw); go_simp; try with_reducible rfl)
    (try simp only [Act.put, List.getElem_toArray, List.getElem_cons_succ, List.getElem_cons_zero, List.setIfInBounds_toArray, List.set_cons_zero, List.set_cons_succ])
    refine wpAnyH_take (i := 13) (v := ?_) rfl (by kernel_rfl) (by kernel_rfl) (by kernel_rfl) (fun _ _ _ h => h) (Or.inl ⟨by kernel_rfl, ?_⟩) (by assumption) ?_
    rotate_left
    · (intro w hSw; (try dsimp only at hSw); go_simp; try with_reducible rfl)
    (try simp only [Act.put, List.getElem_toArray, List.getElem_cons_succ, List.getElem_cons_zero, List.setIfInBounds_toArray, List.set_cons_zero, List.set_cons_succ])
    refine wpAnyH_take (i := 14) (v := ?_) rfl (by kernel_rfl) (by kernel_rfl) (by kernel_rfl) (fun _ _ _ h => h) (Or.inl ⟨by kernel_rfl, ?_⟩) (by assumption) ?_
    rotate_left
    · (intro w hSw; (try dsimp only at hSw); go_simp; try with_reducible rfl)
    (try simp only [Act.put, List.getElem_toArray, List.getElem_cons_succ, List.getElem_cons_zero, List.setIfInBounds_toArray, List.set_cons_zero, List.set_cons_succ])
    refine wpAnyH_take (i := 15) (v := ?_) rfl (by kernel_rfl) (by kernel_rfl) (by kernel_rfl) (fun _ _ _ h => h) (Or.inl ⟨by kernel_rfl, ?_⟩) (by assumption) ?_
    rotate_left
    · (intro w hSw; (try dsimp only at hSw); go_simp; try with_reducible rfl)
    (try simp only [Act.put, List.getElem_toArray, List.getElem_cons_succ, List.getElem_cons_zero, List.setIfInBounds_toArray, List.set_cons_zero, List.set_cons_succ])
    refine wpAnyH_take (i := 16) (v := ?_) rfl (by kernel_rfl) (by kernel_rfl) (by kernel_rfl) (fun _ _ _ h => h) (Or.inl ⟨by kernel_rfl, ?_⟩) (by assumption) ?_
    rotate_left
    · (intro w hSw; (try dsimp only at hSw); go_simp; try with_reducible rfl)
    (try simp only [Act.put, List.getElem_toArray, List.getElem_cons_succ, List.getElem_cons_zero, List.setIfInBounds_toArray, List.set_cons_zero, List.set_cons_succ])
    refine wpAnyH_take (i := 17) (v := ?_) rfl (by kernel_rfl) (by kernel_rfl) (by kernel_rfl) (fun _ _ _ h => h) (Or.inl ⟨by kernel_rfl, ?_⟩) (by assumption) ?_
    rotate_left
    · (intro w hSw; (try dsimp only at hSw); go_simp; try with_reducible rfl)
    (try simp only [Act.put, List.getElem_toArray, List.getElem_cons_succ, List.getElem_cons_zero, List.setIfInBounds_toArray, List.set_cons_zero, List.set_cons_succ])
    refine wpAnyH_take (i := 18) (v := ?_) rfl (by kernel_rfl) (by kernel_rfl) (by kernel_rfl) (fun _ _ _ h => h) (Or.inl ⟨by kernel_rfl, ?_⟩) (by assumption) ?_
    rotate_left
    · (intro w hSw; (try dsimp only at hSw); go_simp; try with_reducible rfl)
    (try simp only [Act.put, List.getElem_toArray, List.getElem_cons_succ, List.getElem_cons_zero, List.setIfInBounds_toArray, List.set_cons_zero, List.set_cons_succ])
    refine wpAnyH_take (i := 19) (v := ?_) rfl (by kernel_rfl) (by kernel_rfl) (by kernel_rfl) (fun _ _ _ h => h) (Or.inl ⟨by kernel_rfl, ?_⟩) (by assumption) ?_
    rotate_left
    · (intro w hSw; (try dsimp only at hSw); go_simp; try with_reducible rfl)
    (try simp only [Act.put, List.getElem_toArray, List.getElem_cons_succ, List.getElem_cons_zero, List.setIfInBounds_toArray, List.set_cons_zero, List.set_cons_succ])
    refine wpAnyH_take (i := 20) (v := ?_) rfl (by kernel_rfl) (by kernel_rfl) (by kernel_rfl) (fun _ _ _ h => h) (Or.inl ⟨by kernel_rfl, ?_⟩) (by assumption) ?_
    rotate_left
    · (intro w hSw; (try dsimp only at hSw); go_simp; try with_reducible rfl)
    (try simp only [Act.put, List.getElem_toArray, List.getElem_cons_succ, List.getElem_cons_zero, List.setIfInBounds_toArray, List.set_cons_zero, List.set_cons_succ])
    refine wpAnyH_take (i := 21) (v := ?_) rfl (by kernel_rfl) (by kernel_rfl) (by kernel_rfl) (fun _ _ _ h => h) (Or.inl ⟨by kernel_rfl, ?_⟩) (by assumption) ?_
    rotate_left
    · (intro w hSw; (try dsimp only at hSw); go_simp; try with_reducible rfl)
    (try simp only [Act.put, List.getElem_toArray, List.getElem_cons_succ, List.getElem_cons_zero, List.setIfInBounds_toArray, List.set_cons_zero, List.set_cons_succ])
    refine wpAnyH_take (i := 22) (v := ?_) rfl (by kernel_rfl) (by kernel_rfl) (by kernel_rfl) (fun _ _ _ h => h) (Or.inl ⟨by kernel_rfl, ?_⟩) (by assumption) ?_
    rotate_left
    · (intro w hSw; (try dsimp only at hSw); go_simp; try with_reducible rfl)
    (try simp only [Act.put, List.getElem_toArray, List.getElem_cons_succ, List.getElem_cons_zero, List.setIfInBounds_toArray, List.set_cons_zero, List.set_cons_succ])
    refine wpAnyH_take (i := 23) (v := ?_) rfl (by kernel_rfl) (by kernel_rfl) (by kernel_rfl) (fun _ _ _ h => h) (Or.inl ⟨by kernel_rfl, ?_⟩) (by assumption) ?_
    rotate_left
    · (intro w hSw; (try dsimp only at hSw); go_simp; try with_reducible rfl)
    (try simp only [Act.put, List.getElem_toArray, List.getElem_cons_succ, List.getElem_cons_zero, List.setIfInBounds_toArray, List.set_cons_zero, List.set_cons_succ])
    refine wpAnyH_take (i := 24) (v := ?_) rfl (by kernel_rfl) (by kernel_rfl) (by kernel_rfl) (fun _ _ _ h => h) (Or.inl ⟨by kernel_rfl, ?_⟩) (by assumption) ?_
    rotate_left
    · (intro w hSw; (try dsimp only at hSw); go_simp; try with_reducible rfl)
    (try simp only [Act.put, List.getElem_toArray, List.getElem_cons_succ, List.getElem_cons_zero, List.setIfInBounds_toArray, List.set_cons_zero, List.set_cons_succ])
    refine wpAnyH_take (i := 25) (v := ?_) rfl (by kernel_rfl) (by kernel_rfl) (by kernel_rfl) (fun _ _ _ h => h) (Or.inl ⟨by kernel_rfl, ?_⟩) (by assumption) ?_
    rotate_left
    · (intro w hSw; (try dsimp only at hSw); go_simp; try with_reducible rfl)
    (try simp only [Act.put, List.getElem_toArray, List.getElem_cons_succ, List.getElem_cons_zero, List.setIfInBounds_toArray, List.set_cons_zero, List.set_cons_succ])
    refine wpAnyH_done (by kernel_rfl) ?_ _
    have hBw6 := hBw4.trans (hB6'.mono hBw4.size)
    have hb1 := (hb1'.below hB6').more hB6'.size
    have hb2 := (hb2'.below hB6').more hB6'.size
    have hbk := (hb'.below hB6').more hB6'.size
    clear hb' hb1' hb2' hb3' hb4 Hkeep Q5 t5 Q6 t6 hb5 hb6 hm5 hm6 hB5 hB6 hB5' hB6' hBw4
    obtain ⟨v7, w7, A8, L8, c8, w8, r7, r8, hb8, hB8⟩ := append_two hb1 hbk (Nat.le_refl _) (by rw [H1.out]; omega)
    go_wp2_with (first
      | (at_builtin; refine wpList_append_run rfl _ _ 24 rfl _ _ _ rfl rfl r7 ?_)
      | (at_builtin; refine wpList_append_run rfl _ _ 24 rfl _ _ _ rfl rfl r8 ?_))
    refine (readu_any _ A8 L8 c8 w8.heap.size w8 hb8 (Nat.le_refl _)).mono ?_
    rintro e w9 ⟨he, hB9⟩
    rw [readU_uvar n ks hn, ← H1.out] at he
    obtain rfl : e = .returned (.tuple #[.int .u64 (n : Int), .int .i64 (L1 : Int), .int .i64 0]) := he
    have hB69 := hB8.trans (hB9.mono hB8.size)
    have hBw9 := hBw6.trans (hB69.mono hBw6.size)
    have hb1x := (hb1.below hB69).more hB69.size
    have hb2x := (hb2.below hB69).more hB69.size
    have hbkx := (hbk.below hB69).more hB69.size
    clear hb1 hb2 hbk hb8 r7 r8 hB8 hB9 hBw6 hB69
    obtain ⟨v10, w10, A11, L11, c11, w11, r10, r11, hb11, hB11⟩ := append_two hb2x hbkx (Nat.le_refl _) (by rw [H2.out]; omega)
    go_wp2_with (first
      | (at_builtin; refine wpList_append_run rfl _ _ 24 rfl _ _ _ rfl rfl r10 ?_)
      | (at_builtin; refine wpList_append_run rfl _ _ 24 rfl _ _ _ rfl rfl r11 ?_))
    refine (readi_any _ A11 L11 c11 w11.heap.size w11 hb11 (Nat.le_refl _)).mono ?_
    rintro e w12 ⟨he, hB12⟩
    rw [readI_zig i ks hi0 hi1, ← H2.out] at he
    obtain rfl : e = .returned (.tuple #[.int .i64 i, .int .i64 (L2 : Int), .int .i64 0]) := he
    have hB912 := hB11.trans (hB12.mono hB11.size)
    have hBw12 := hBw9.trans (hB912.mono hBw9.size)
    have hb := (hb1x.below hB912).more hB912.size
    clear hb1x hb2x hbkx hb11 r10 r11 hB11 hB12 hBw9 hB912 H2
    have hL1 : L1 ≤ 10 := by rw [H1.out]; exact lu
    have hcap := hb.cap
    go_wp2
    go_loopw [119] (fun t119 wq => ∃ x : Nat, x ≤ L1 ∧ t119 = .int .i64 (x : Int) ∧ Below w12.heap.size w12 wq) (fun t119 _ => L1 - (intOf t119).toNat)
    case atStart => exact ⟨0, by omega, rfl, Below.refl _ _⟩
    case round =>
      obtain ⟨x, hx, rfl, hBr⟩ := hrel
      by_cases hlt : x < L1
      · have hct := run_cutTo (P := Try.prog) 24 5 Try.underlying24 (fun w => by simp [go_sem]) A1 L1 c1 .i64 (x : Int) (by omega) (by omega)
        simp only [Int.toNat_natCast] at hct
        have hcall := hide (readu_any _ A1 x c1 w12.heap.size wr ((hb.below hBr).take (by omega)) hBr.size)
        have hcut := hide (readU_cut n x hn (by rw [← H1.out]; exact hlt))
        go_wp2_with fail
        refine (hcall.out).mono ?_
        rintro e w13 ⟨he, hB13⟩
        rw [hcut.out] at he
        obtain rfl : e = .returned (.tuple #[.int .u64 0, .int .i64 0, .int .i64 20]) := he
        go_wp2
        go_roundw
        case rel => exact ⟨x + 1, by omega, by simp, hBr.trans (hB13.mono hBr.size)⟩
        case measure => simp [intOf]; omega
      · obtain rfl : x = L1 := by omega
        go_wp2
        go_ret
        exact ⟨rfl, hBw12.trans (hBr.mono hBw12.size)⟩

end Go.Proofs.Ytdlbhppoknbnlaa
