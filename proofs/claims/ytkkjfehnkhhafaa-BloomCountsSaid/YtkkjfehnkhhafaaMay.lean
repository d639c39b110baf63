/-
  The walk of bloom.May: it answers what the filter's bits say of the key's places. Condition: both slices read as bytes; the filter is of at most 2^24 + 1 bytes.
-/
import Derived.Test.YtkkjfehnkhhafaaIter
namespace Go.Proofs.Ytkkjfehnkhhafaa
open Go.RowKit Go.Shelf

attribute [local go_sem] Oper.semAt_some

/-- the bit of a place -/
def bitAt (fs : List UInt8) (p : Int) : Bool := ((fs.getD (p / 8).toNat 0).toNat / 2 ^ (p % 8).toNat) % 2 == 1
def placesOf (bits : Nat) (hb : 0 < bits) (ks : List UInt8) (many : Nat) : List (Place bits) := upto (plAt bits hb (hash ks)) many
def mayOf (fs ks : List UInt8) : Bool :=
  if h : fs.length < 2 then false
  else if 30 < (fs.getD (fs.length - 1) 0).toNat then true
  else (placesOf (8 * (fs.length - 1)) (by omega) ks (fs.getD (fs.length - 1) 0).toNat).all fun p => bitAt fs p.1

theorem mayOf_eq {fs ks : List UInt8} {m : Nat} {kb : UInt8} (hm : fs.length = m + 1) (h0 : 0 < 8 * m) (hk : fs.getD (fs.length - 1) 0 = kb) (h30 : ¬ 30 < kb.toNat) :
    mayOf fs ks = (placesOf (8 * m) h0 ks kb.toNat).all fun p => bitAt fs p.1 := by
  obtain rfl : m = fs.length - 1 := by omega
  unfold mayOf
  rw [dif_neg (by omega), hk, if_neg h30]
theorem upto_sub {α : Type} (f : Nat → α) {k n : Nat} (h : k ≤ n) {x : α} (hx : x ∈ upto f k) : x ∈ upto f n := by
  simp only [upto, List.mem_map, List.mem_range] at *
  obtain ⟨i, hi, e⟩ := hx
  exact ⟨i, by omega, e⟩
theorem cast8 (m : Nat) : ((8 * m : Nat) : Int) = 8 * (m : Int) := by omega

set_option maxRecDepth 100000 in
set_option maxHeartbeats 2000000 in
theorem may_any (fs ks : List UInt8) (FA A : Option Addr) (fn fc kn kc BF BK : Nat) (w : World) (hf : Bs w BF FA fn fc fs) (hBF : BF ≤ w.heap.size) (hk : Bs w BK A kn kc ks) (hBK : BK ≤ w.heap.size) (hlen : fn ≤ 16777217) :
    Calls Try.prog 15 #[.slice FA fn fc, .slice A kn kc] w fun e w' => e = .returned (.bool (mayOf fs ks)) ∧ Below w.heap.size w w' := by
  refine (callsIn_wide (n := 9)).1 ?_
  refine callsIn_of_wp_marks Try.func15 rfl trivial ?_ rfl
  simp only [Try.ntmps15, List.size_toArray, List.length_cons, List.length_nil, Nat.reduceAdd, Nat.reduceSub, Array.replicate_succ, Array.replicate_zero, List.push_toArray, List.append_toArray, List.nil_append, List.cons_append]
  have f20 : Fence.wide.fn 20 := trivial
  have hfl := hide hf.len
  by_cases h2 : fn < 2
  · gi_wp2
    have hm : mayOf fs ks = false := by unfold mayOf; rw [dif_pos (by rw [hfl.out]; exact h2)]
    refine ⟨.bool false, ?_, ?_, ?_⟩
    · simp [results, Try.f15, go_sem]
    · rw [hm]
    · exact ((Below.refl _ w).alloc (Nat.le_refl _) _).alloc (by simp) _
  · obtain ⟨b, off, rfl, hb, hc0⟩ := hf.at_ (by omega)
    obtain ⟨m, rfl⟩ : ∃ m, fn = m + 1 := ⟨fn - 1, by omega⟩
    have hc1 := hc0 m (by rw [hfl.out]; omega)
    obtain ⟨kb, hkb⟩ : ∃ kb, kb = fs[m]'(by rw [hfl.out]; omega) := ⟨_, rfl⟩
    rw [← hkb] at hc1
    have hkb' : fs.getD (fs.length - 1) 0 = kb := by
      have := hfl.out
      rw [List.getD_eq_getElem?_getD, List.getElem?_eq_getElem (by omega), Option.getD_some, hkb]
      congr 1
      omega
    have Hkb := hide hkb'
    clear hkb hkb'
    have hbw : b < w.heap.size := by omega
    have hkl := u8_lt kb
    by_cases h30 : 30 < kb.toNat
    · gi_wp2
      have hm : mayOf fs ks = true := by unfold mayOf; rw [dif_neg (by rw [hfl.out]; exact h2), Hkb.out, if_pos h30]
      refine ⟨.bool true, ?_, ?_, ?_⟩
      · simp [results, Try.f15, go_sem]
      · rw [hm]
      · exact ((Below.refl _ w).alloc (Nat.le_refl _) _).alloc (by simp) _
    · gi_wp2_with (gi_at_call 20; refine (callsIn_wide.2 (probesF_any _ _ _ _ _ _)).mono ?_; rintro e w' ⟨rfl, rfl⟩)
      have bF := (((((Boxed.new w 25 (.slice (some ⟨b, off, none⟩) (m + 1) fc)).alloc (.cells #[.bool false] 4)).alloc (.cells #[.slice A kn kc] 25)).alloc (.cells #[.int .i64 (kb.toNat : Int)] 3)).alloc (.cells #[.int .u32 (8 * (m : Int))] 32))
      have bR := ((((Boxed.new (w.alloc (.cells #[.slice (some ⟨b, off, none⟩) (m + 1) fc] 25)) 4 (.bool false)).alloc (.cells #[.slice A kn kc] 25)).alloc (.cells #[.int .i64 (kb.toNat : Int)] 3)).alloc (.cells #[.int .u32 (8 * (m : Int))] 32))
      have b1 := (((Boxed.new ((w.alloc (.cells #[.slice (some ⟨b, off, none⟩) (m + 1) fc] 25)).alloc (.cells #[.bool false] 4)) 25 (.slice A kn kc)).alloc (.cells #[.int .i64 (kb.toNat : Int)] 3)).alloc (.cells #[.int .u32 (8 * (m : Int))] 32))
      have b2 := ((Boxed.new (((w.alloc (.cells #[.slice (some ⟨b, off, none⟩) (m + 1) fc] 25)).alloc (.cells #[.bool false] 4)).alloc (.cells #[.slice A kn kc] 25)) 3 (.int .i64 (kb.toNat : Int))).alloc (.cells #[.int .u32 (8 * (m : Int))] 32))
      have b3 := Boxed.new ((((w.alloc (.cells #[.slice (some ⟨b, off, none⟩) (m + 1) fc] 25)).alloc (.cells #[.bool false] 4)).alloc (.cells #[.slice A kn kc] 25)).alloc (.cells #[.int .i64 (kb.toNat : Int)] 3)) 32 (.int .u32 (8 * (m : Int)))
      simp only [World.size_alloc] at bR b1 b2 b3
      have hB0 := ((((((Below.refl w.heap.size w).alloc (Nat.le_refl _) (.cells #[.slice (some ⟨b, off, none⟩) (m + 1) fc] 25)).alloc (by simp) (.cells #[.bool false] 4)).alloc (by simp; omega) (.cells #[.slice A kn kc] 25)).alloc (by simp; omega) (.cells #[.int .i64 (kb.toNat : Int)] 3)).alloc (by simp; omega) (.cells #[.int .u32 (8 * (m : Int))] 32))
      obtain ⟨W0, hW0⟩ : ∃ W0, (((((w.alloc (.cells #[.slice (some ⟨b, off, none⟩) (m + 1) fc] 25)).alloc (.cells #[.bool false] 4)).alloc (.cells #[.slice A kn kc] 25)).alloc (.cells #[.int .i64 (kb.toNat : Int)] 3)).alloc (.cells #[.int .u32 (8 * (m : Int))] 32)) = W0 := ⟨_, rfl⟩
      have hsz : W0.heap.size = w.heap.size + 5 := by rw [← hW0]; simp
      rw [hW0] at bF bR b1 b2 b3 hB0 ⊢
      clear hW0
      have hm0 : 0 < 8 * m := by omega
      have c3 := b3.cell
      rw [← cast8] at c3
      refine wpIn_rangeFunc_ownG (n := 9) rfl (by omega) (gf := 25) (lb := #[.pointer (some ⟨w.heap.size + 1 + 1, 0, none⟩), .pointer (some ⟨w.heap.size + 1 + 1 + 1, 0, none⟩), .pointer (some ⟨w.heap.size + 1 + 1 + 1 + 1, 0, none⟩)]) rfl trivial (enters_of Try.func25 (by kernel_rfl) rfl)
        (probes_stops (9 - 1) (by omega) (w.heap.size + 1 + 1) (w.heap.size + 1 + 1 + 1) (w.heap.size + 1 + 1 + 1 + 1) w.heap.size ks A kn kc kb.toNat (8 * m) (by omega) hm0 (by omega) W0 (by omega) (by omega) (by omega) (by omega) b1.cell b2.cell c3 ((hk.more hBK).below hB0))
        keepAt_t (keepAt_b (by omega)) (Below.refl _ _) (fun _ => rfl)
        (fun pre W => ((Boxed W w.heap.size 25 (.slice (some ⟨b, off, none⟩) (m + 1) fc) ∧ Boxed W (w.heap.size + 1) 4 (.bool false)) ∧ ∀ p ∈ pre, bitAt fs p.1 = true) ∧ Below w.heap.size w W)
        (fun c pre W => ((c = .ret ∧ ∃ p ∈ pre, bitAt fs p.1 = false) ∧ Boxed W (w.heap.size + 1) 4 (.bool false)) ∧ Below w.heap.size w W)
        (OwnFrom.and (OwnFrom.and (OwnFrom.and (Own.from (boxed_own _ _ _) _) (Own.from (boxed_own _ _ _) _)) (ownFrom_pure _ _)) (ownFrom_below (Nat.le_refl _) (by omega)))
        (fun c => OwnFrom.and (OwnFrom.and (ownFrom_pure _ _) (Own.from (boxed_own _ _ _) _)) (ownFrom_below (Nat.le_refl _) (by omega)))
        ⟨⟨⟨bF, bR⟩, by simp⟩, hB0⟩
        (fun x => { tmps := #[.slice (some ⟨b, off, none⟩) (m + 1) fc, .slice A kn kc, .pointer (some ⟨w.heap.size, 0, none⟩), undef, .pointer (some ⟨w.heap.size + 1, 0, none⟩), .int .i64 (m : Int), .int .i64 (kb.toNat : Int), .int .u32 x.1, .slice (some ⟨b, off, none⟩) (m + 1) fc, .int .i64 ((m : Int) + 1), .int .i64 (m : Int), .int .i64 (m : Int), .bool (decide ((m : Int) < 1)), .slice (some ⟨b, off, none⟩) (m + 1) fc, .int .i64 (m : Int), .pointer (some ⟨b, off + m, none⟩), .int .u8 (kb.toNat : Int), .int .i64 (kb.toNat : Int), .int .i64 (kb.toNat : Int), .bool (decide (30 < (kb.toNat : Int))), .slice A kn kc, .int .i64 (kb.toNat : Int), .int .i64 (m : Int), .int .i64 (8 * (m : Int)), .int .u32 (8 * (m : Int)),
          .func (.func 25) #[] #[.pointer (some ⟨w.heap.size + 1 + 1, 0, none⟩), .pointer (some ⟨w.heap.size + 1 + 1 + 1, 0, none⟩), .pointer (some ⟨w.heap.size + 1 + 1 + 1 + 1, 0, none⟩)], .int .u32 x.1, undef, undef, undef, undef, undef, undef, undef, undef, undef, undef], defers := [] })
        ?assign ?body ?done ?stop
      case assign =>
        intro l x W K hK
        simp only [encP]
        gi_wp2
        exact hK
      case body =>
        rintro l pre ⟨p, hp0, hp1⟩ W ⟨⟨⟨bF1, bR1⟩, hall⟩, hB1⟩ _
        have cF := bF1.cell
        have cR := bR1.cell
        have fR := bR1.frozen
        have hq : (p / 8).toNat < fs.length := by have := hfl.out; omega
        obtain ⟨kq, hkq⟩ : ∃ kq, kq = fs[(p / 8).toNat]'hq := ⟨_, rfl⟩
        have hcq : W.cell? ⟨b, off + (p / 8).toNat, none⟩ = some (.int .u8 (kq.toNat : Int)) := by rw [hkq]; exact (hB1.cell (p := ⟨b, off + (p / 8).toNat, none⟩) hbw).trans (hc0 _ hq)
        have Hkq := hide hkq
        clear hkq
        have hql := u8_lt kq
        have hbt := bit_test kq (p % 8).toNat
        have hba : bitAt fs p = ((kq.toNat / 2 ^ (p % 8).toNat) % 2 == 1) := by
          unfold bitAt
          rw [List.getD_eq_getElem?_getD, List.getElem?_eq_getElem hq, Option.getD_some, Hkq.out]
        rw [← hba] at hbt
        have Hbt := hide hbt
        clear hbt hba
        gi_wp2
        · have ht : (bits BinOp.and IntKind.u8 ((kq.toNat : Int) / 2 ^ (p % 8).toNat) 1 == 0) = true := by assumption
          have hbf : bitAt fs p = false := by have := Hbt.out; rw [ht] at this; simpa using this
          exact ⟨(KeepsOthers.setCell _ _ _).from _, ⟨⟨⟨rfl, ⟨p, hp0, hp1⟩, by simp, hbf⟩, bR1.set _⟩, hB1.setCell (p := ⟨w.heap.size + 1, 0, none⟩) (by simp) _⟩⟩
        · have ht : (bits BinOp.and IntKind.u8 ((kq.toNat : Int) / 2 ^ (p % 8).toNat) 1 == 0) = false := by assumption
          have hbf : bitAt fs p = true := by have := Hbt.out; rw [ht] at this; simpa using this
          exact ⟨KeepsFrom.refl _ _, keepAt_refl _ _, ⟨⟨⟨bF1, bR1⟩, fun q hq' => (List.mem_append.1 hq').elim (hall q) (fun e => by simp at e; subst e; exact hbf)⟩, hB1⟩⟩
      case done =>
        rintro D ys W hD rfl ⟨⟨⟨bF1, bR1⟩, hall⟩, hB1⟩ hK
        have cR := bR1.cell
        have fR := bR1.frozen
        gi_wp2
        have hK' := (KeepsOthers.setCell W ⟨w.heap.size + 1, 0, none⟩ (.bool true)).same D _ hK rfl
        refine ⟨by simp, .inl ⟨_, _, rfl, run_takeDeferred hK', ?_⟩⟩
        have hc5 := cell_kept (World.cell?_setCell_same' W ⟨w.heap.size + 1, 0, none⟩ (.bool true) (by rw [cR]; rfl)) (grownBy_putObj' _ D (.deferred none)) (fun r e => by cases e; exact ⟨_, hK', rfl⟩)
        have hm : mayOf fs ks = true := by
          rw [mayOf_eq hfl.out hm0 Hkb.out h30]
          exact List.all_eq_true.2 hall
        refine ⟨.bool true, ?_, by rw [hm], (hB1.setCell (p := ⟨w.heap.size + 1, 0, none⟩) (by simp) _).trans (belowK_b (w := w) (Nat.le_refl _) _ D _ _ (by omega) hK' rfl rfl)⟩
        simp [results, Try.f15, go_sem, hc5]
      case stop =>
        rintro D c pre W hD ⟨k, hk', rfl⟩ ⟨⟨⟨rfl, q, hq, hbf⟩, bR1⟩, hB1⟩ hK
        gi_wp2
        refine ⟨by simp, .inl ⟨_, _, rfl, run_takeDeferred hK, ?_⟩⟩
        have hc5 := cell_kept bR1.cell (grownBy_putObj' _ D (.deferred none)) (fun r e => by cases e; exact ⟨_, hK, rfl⟩)
        have hm : mayOf fs ks = false := by
          rw [mayOf_eq hfl.out hm0 Hkb.out h30]
          exact List.all_eq_false.2 ⟨q, upto_sub _ hk' hq, by simpa using hbf⟩
        refine ⟨.bool false, ?_, by rw [hm], hB1.trans (belowK_b (w := w) (Nat.le_refl _) W D _ _ (by omega) hK rfl rfl)⟩
        simp [results, Try.f15, go_sem, hc5]

end Go.Proofs.Ytkkjfehnkhhafaa
