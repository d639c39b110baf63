/-
  The walk of the law CrcBits: it answers true. Condition: the slice reads as bytes.
-/
import Derived.Test.YtdnhpmdmkdgmpaaBitsP
import Derived.Laws.OwnMore
namespace Go.Proofs.Ytdnhpmdmkdgmpaa
open Go.RowKit Go.Shelf

theorem wrap64_small (x : Int) (h0 : -9223372036854775808 ≤ x) (h1 : x ≤ 9223372036854775807) : wrap64 x = x := by unfold wrap64; omega
/-- a place: (x % m + m) % m -/
theorem place_any (x : Int) (m : Nat) (h0 : 0 < m) (h1 : m ≤ 1000000000) : ∃ a : Nat, a < m ∧ (x.tmod (m : Int) + (m : Int)).tmod (m : Int) = (a : Int) := by
  have e1 := Int.tmod_lt_of_pos x (show 0 < (m : Int) by omega)
  have e2 := Int.lt_tmod_of_pos x (show 0 < (m : Int) by omega)
  have e3 := Int.tmod_lt_of_pos (x.tmod (m : Int) + (m : Int)) (show 0 < (m : Int) by omega)
  have e4 := Int.tmod_nonneg (m : Int) (show 0 ≤ x.tmod (m : Int) + (m : Int) by omega)
  exact ⟨((x.tmod (m : Int) + (m : Int)).tmod (m : Int)).toNat, by omega, by omega⟩

/-- a region whose last operation writes what the others have read, outside a round -/
theorem region_last {id : Nat} {P : Program} {ops : Array Oper} (L : Nat) {S : World → Prop} {Q : Exit → Act → World → Prop} {a : Act} {w : World} (hm : P.follows .mixedOrders = true)
    (hS : S w.drew) (h : S w.drew → wpAnyL P .any ops Q S L ops.size (Array.replicate ops.size false) a w.drew) : (Code.region id ops true).wp P Q a w :=
  wp_region_any hm (wpAny_of_last _ _ _ _ (h hS))

theorem mine_row {e : TypeId} {w : World} {base g n cap : Nat} {ks : List UInt8} (h : Mine e w base (.slice (some ⟨g, 0, none⟩) n cap) ks) (hn : ks.length = n) : w.ownsRow base e 1 (.slice (some ⟨g, 0, none⟩) n cap) n (ks.map b8) := by
  subst hn
  exact h
theorem mine_put {e : TypeId} {w : World} {base g n cap : Nat} {ks : List UInt8} (h : Mine e w base (.slice (some ⟨g, 0, none⟩) n cap) ks) (hn : ks.length = n) (i : Nat) (x : UInt8) :
    Mine e (w.setCell ⟨g, i, none⟩ (b8 x)) base (.slice (some ⟨g, 0, none⟩) n cap) (ks.set i x) ∧ w.grownBy (w.setCell ⟨g, i, none⟩ (b8 x)) (some g) := by
  have := World.ownsRow.stored (mine_row h hn) i (b8 x)
  refine ⟨?_, this.2⟩
  unfold Mine
  rw [List.length_set, hn, List.map_set]
  exact this.1

theorem pow_bit {r : Nat} (h : r < 8) : (UInt8.ofNat (2 ^ r)).toNat = 2 ^ r := by
  have : (2 : Nat) ^ r < 256 := Nat.lt_of_lt_of_le (Nat.pow_lt_pow_right (by omega) h) (by decide)
  rw [UInt8.toNat_ofNat_of_lt' this]

theorem eq58 (a b c d : Int) (w : World) : (Op.equalIn 10000 58 (.agg #[.int .u8 a, .int .u8 b, .int .u8 c, .int .u8 d]) (.agg #[.int .u8 0, .int .u8 0, .int .u8 0, .int .u8 0])).run Try.prog w = .ok (a == 0 && b == 0 && c == 0 && d == 0) w := by
  have u3 := Try.underlying5
  have a3 := Try.isAgg5
  have z3 := Try.sizeOf5
  rw [show (10000 : Nat) = 9999 + 1 from rfl, Op.equalIn]
  simp only [Sem.run_bind, run_underlying Try.underlying58, Result.andThen_ok]
  simp only [Std.Legacy.Range.forIn_eq_forIn_range', Std.Legacy.Range.size, Nat.sub_zero, Nat.add_sub_cancel, Nat.div_one, List.range'_succ, List.range'_zero, List.forIn_cons, List.forIn_nil]
  go_simp
  by_cases h1 : a = 0 <;> by_cases h2 : b = 0 <;> by_cases h3 : c = 0 <;> by_cases h4 : d = 0 <;> simp [h1, h2, h3, h4]

set_option maxRecDepth 100000 in
set_option maxHeartbeats 4000000 in
theorem bits_any (ks : List UInt8) (A : Option Addr) (n c : Nat) (at_ : Int) (y0 y1 y2 y3 : UInt8) (bit : Int) (w : World) (hk : Bs w w.heap.size A n c ks)
    (ha0 : -9223372036854775808 ≤ at_) (ha1 : at_ ≤ 9223372036854775807) (hb0 : -9223372036854775808 ≤ bit) (hb1 : bit ≤ 9223372036854775807) :
    Calls Try.prog 5 #[.slice A n c, .int .i64 at_, .agg #[b8 y0, b8 y1, b8 y2, b8 y3], .int .i64 bit] w fun e w' => e = .returned (.bool true) ∧ Below w.heap.size w w' := by
  have hn := hk.reach
  have hlen := hide hk.len
  unfold b8
  go_enter Try.func5, Try.ntmps5
  go_wp2_with fail
  have hB0 : Below w.heap.size w (w.alloc (.cells #[.int .u8 (y0.toNat : Int), .int .u8 (y1.toNat : Int), .int .u8 (y2.toNat : Int), .int .u8 (y3.toNat : Int)] 58)) := (Below.refl _ w).alloc (Nat.le_refl _) _
  have hY : Blk (w.alloc (.cells #[.int .u8 (y0.toNat : Int), .int .u8 (y1.toNat : Int), .int .u8 (y2.toNat : Int), .int .u8 (y3.toNat : Int)] 58)) w.heap.size 58 #[.int .u8 (y0.toNat : Int), .int .u8 (y1.toNat : Int), .int .u8 (y2.toNat : Int), .int .u8 (y3.toNat : Int)] := Blk.new w 58 _
  have hz0 : (w.alloc (.cells #[.int .u8 (y0.toNat : Int), .int .u8 (y1.toNat : Int), .int .u8 (y2.toNat : Int), .int .u8 (y3.toNat : Int)] 58)).heap.size = w.heap.size + 1 := by simp
  generalize w.alloc (.cells #[.int .u8 (y0.toNat : Int), .int .u8 (y1.toNat : Int), .int .u8 (y2.toNat : Int), .int .u8 (y3.toNat : Int)] 58) = w0 at *
  refine (awake_any w0).mono ?_
  rintro e w1 ⟨rfl, hB1⟩
  have hY1 := hY.below hB1 hY.lt
  have d0 := hY1.cell 0
  have d1 := hY1.cell 1
  have d2 := hY1.cell 2
  have d3 := hY1.cell 3
  have hBw1 := hB0.trans (hB1.mono (by omega))
  by_cases hs : n < 4
  · have hs' : (n : Int) < 4 := by omega
    go_wp2
    go_ret
    exact ⟨rfl, hBw1⟩
  · have hs' : ¬ (n : Int) < 4 := by omega
    by_cases hl : 3000 < n
    · have hl' : (3000 : Int) < (n : Int) := by omega
      go_wp2
      go_ret
      exact ⟨rfl, hBw1⟩
    · have hl' : ¬ (3000 : Int) < (n : Int) := by omega
      by_cases hy : y0 = 0 ∧ y1 = 0 ∧ y2 = 0 ∧ y3 = 0
      · obtain ⟨rfl, rfl, rfl, rfl⟩ := hy
        have he := eq58 0 0 0 0
        go_wp2
        go_ret
        exact ⟨rfl, hBw1⟩
      have he : ∀ w, (Op.equalIn 10000 58 (.agg #[.int .u8 (y0.toNat : Int), .int .u8 (y1.toNat : Int), .int .u8 (y2.toNat : Int), .int .u8 (y3.toNat : Int)]) (.agg #[.int .u8 0, .int .u8 0, .int .u8 0, .int .u8 0])).run Try.prog w = .ok false w := fun w => by
        rw [eq58]
        congr 1
        simp only [← UInt8.toNat_inj] at hy
        simp only [Bool.and_eq_false_iff, beq_eq_false_iff_ne, ne_eq]
        simp at hy
        omega
      have Hy := hide hy
      clear hy
      go_wp2_with fail
      refine (new_any w1).mono ?_
      rintro e w2 ⟨rfl, rfl⟩
      have ht2 : Tbl (w1.alloc (.cells (tbCells 1) 44)) w1.heap.size false := tb_of _ _ 1 (Blk.new w1 44 _)
      have hs1 := hBw1.size
      have hY2 := hY1.alloc (.cells (tbCells 1) 44)
      have hB2 := hBw1.alloc hs1 (.cells (tbCells 1) 44)
      obtain ⟨G, hG⟩ : ∃ G, w1.heap.size = G := ⟨_, rfl⟩
      have hz : (w1.alloc (.cells (tbCells 1) 44)).heap.size = G + 1 := by simp [hG]
      have hYlt := hY1.lt
      generalize w1.alloc (.cells (tbCells 1) 44) = w2 at *
      rw [hG] at ht2 hs1 hYlt ⊢
      have hk2 := hk.below hB2
      obtain ⟨v3, w3, hrun3, hm3, hg3, _⟩ := append_mine (P := Try.prog) 22 Try.underlying22 info5 (Mine.nil 5 w2 w2.heap.size) (Nat.le_refl _) hk2 (by simp; omega)
      rw [List.nil_append] at hm3
      have hk3 := bs_row hk2 hB2.size hg3 (fun r e => by cases e)
      have ht3 := ht2.grown hg3 (fun e => by cases e)
      have hB3 := hB2.grown hg3 hB2.size (fun r e => by cases e)
      have hY3 := hY2.grown hg3 (fun e => by cases e)
      have hs3 := hg3.size
      obtain ⟨C, cap, e3, hC0, hC1⟩ := World.ownsRow.form hm3 (by rw [hlen.out]; omega)
      rw [hlen.out] at e3
      subst e3
      have H3 := hide hrun3
      clear hrun3 he d0 d1 d2 d3 hY hY1 hY2 hk2 ht2 hg3 hB0 hB1 hBw1 hB2 hk
      go_wp2_with (at_builtin; refine wpList_append_run rfl _ _ 22 rfl _ _ _ rfl rfl H3.out ?_)
      obtain ⟨a, ha, hat⟩ := place_any at_ (n - 3) (by omega) (by omega)
      have hat2 : (wrap64 (wrap64 (at_.tmod ((n : Int) - 3) + (n : Int)) - 3)).tmod ((n : Int) - 3) = (a : Int) := by
        rw [← hat, show ((n - 3 : Nat) : Int) = (n : Int) - 3 by omega]
        have h1 := Int.tmod_lt_of_pos at_ (show 0 < (n : Int) - 3 by omega)
        have h2 := Int.lt_tmod_of_pos at_ (show 0 < (n : Int) - 3 by omega)
        rw [wrap64_small (at_.tmod ((n : Int) - 3) + (n : Int)) (by omega) (by omega), wrap64_small _ (by omega) (by omega)]
        congr 1
        omega
      rw [hat2]
      clear hat2 hat
      have hys : ∀ j, j < 4 → w3.cell? ⟨w.heap.size, j, none⟩ = some (.int .u8 (([y0, y1, y2, y3] : List UInt8).getD j 0).toNat) := fun j hj => by
        rcases j with _ | _ | _ | _ | j
        · exact hY3.cell 0
        · exact hY3.cell 1
        · exact hY3.cell 2
        · exact hY3.cell 3
        · omega
      have Hys := hide hys
      have Hm3 := hide hm3
      have Hsum := hide (sums_turned ks a y0 y1 y2 y3 (by rw [hlen.out]; omega) Hy.out)
      have hysl : ([y0, y1, y2, y3] : List UInt8).length = 4 := rfl
      generalize ([y0, y1, y2, y3] : List UInt8) = ys at *
      clear hys hm3 hY3
      go_loopw [49] (fun t49 wq => ∃ j : Nat, j ≤ 4 ∧ t49 = .int .i64 (j : Int) ∧ Mine 5 wq w2.heap.size (.slice (some ⟨C, 0, none⟩) n cap) (turned ks a ys j) ∧ w3.grownBy wq (some C)) (fun t49 _ => 4 - (intOf t49).toNat)
      case atStart => exact ⟨0, by omega, rfl, by rw [turned_zero]; exact Hm3.out, World.grownBy.refl _ _⟩
      case round =>
        obtain ⟨j, hj, rfl, hmq, hgq⟩ := hrel
        by_cases hj4 : j < 4
        · have hajl : a + j < ks.length := by rw [hlen.out]; omega
          have haj : a + j < (turned ks a ys j).length := by rw [turned_len]; exact hajl
          have hyj := Hys.out j hj4
          have hgy : wr.cell? ⟨w.heap.size, j, none⟩ = some (.int .u8 ((ys.getD j 0).toNat : Int)) := (World.cell?_of_block (w := w3) (hgq.block w.heap.size (by omega) (fun e => by injection e with e; omega))).trans hyj
          have hcj : wr.cell? ⟨C, a + j, none⟩ = some (.int .u8 (ks[a + j].toNat : Int)) := by
            have hcc := World.ownsRow.cellAt (mine_row hmq (by rw [turned_len, hlen.out])) (a + j) (by omega)
            rw [List.getElem?_map, List.getElem?_eq_getElem haj, turned_at _ _ _ _ hajl] at hcc
            exact hcc
          have hfj := World.ownsRow.frozenAt (mine_row hmq (by rw [turned_len, hlen.out])) (a + j)
          have hsuc := turned_succ ks a ys j hajl (by omega)
          have hyd : ys.getD j 0 = ys[j]'(by omega) := by rw [List.getD_eq_getElem?_getD, List.getElem?_eq_getElem (by omega), Option.getD_some]
          rw [← hyd] at hsuc
          have hx8 := xor_u8_nat ks[a + j].toNat (ys.getD j 0).toNat ks[a + j].toNat_lt (ys.getD j 0).toNat_lt
          rw [← UInt8.toNat_xor] at hx8
          generalize ys.getD j 0 = Y at *
          generalize ks[a + j] = X at *
          have i0 : (0 : Int) ≤ (a : Int) + (j : Int) := by omega
          have i1 : (a : Int) + (j : Int) < (n : Int) := by omega
          have i2 : ((a : Int) + (j : Int)).toNat = a + j := by omega
          have i3 : (0 : Int) ≤ (j : Int) := by omega
          have i4 : (j : Int) < 4 := by omega
          have i5 : IntKind.i64.wrap ((a : Int) + (j : Int)) = (a : Int) + (j : Int) := by simp [IntKind.wrap, IntKind.bits, IntKind.signed]; omega
          have hHS : wr.drew.cell? ⟨C, a + j, none⟩ = some (.int .u8 (X.toNat : Int)) ∧ wr.drew.cell? ⟨w.heap.size, j, none⟩ = some (.int .u8 (Y.toNat : Int)) := ⟨hcj, hgy⟩
          have Hmq := hide hmq
          have Hsuc := hide hsuc
          clear hmq hsuc hyj hyd
          go_wp2
          refine region_last 11 (S := fun W => W.cell? ⟨C, a + j, none⟩ = some (.int .u8 (X.toNat : Int)) ∧ W.cell? ⟨w.heap.size, j, none⟩ = some (.int .u8 (Y.toNat : Int))) (by kernel_rfl) (hHS) (fun hHeld => ?_)
          refine wpAnyL_take (i := 0) (v := ?_) rfl (by kernel_rfl) (by kernel_rfl) (by kernel_rfl) (by kernel_rfl) (fun _ _ _ h => h) (Or.inl ⟨by kernel_rfl, ?_⟩) (by assumption) ?_
          rotate_left
          · (intro w hSw; (try dsimp only at hSw); go_simp; try with_reducible rfl)
          (try simp only [Act.put, List.getElem_toArray, List.getElem_cons_succ, List.getElem_cons_zero, List.setIfInBounds_toArray, List.set_cons_zero, List.set_cons_succ])
          refine wpAnyL_take (i := 1) (v := ?_) rfl (by kernel_rfl) (by kernel_rfl) (by kernel_rfl) (by kernel_rfl) (fun _ _ _ h => h) (Or.inl ⟨by kernel_rfl, ?_⟩) (by assumption) ?_
          rotate_left
          · (intro w hSw; (try dsimp only at hSw); go_simp; try with_reducible rfl)
          (try simp only [Act.put, List.getElem_toArray, List.getElem_cons_succ, List.getElem_cons_zero, List.setIfInBounds_toArray, List.set_cons_zero, List.set_cons_succ])
          refine wpAnyL_take (i := 2) (v := ?_) rfl (by kernel_rfl) (by kernel_rfl) (by kernel_rfl) (by kernel_rfl) (fun _ _ _ h => h) (Or.inl ⟨by kernel_rfl, ?_⟩) (by assumption) ?_
          rotate_left
          · (intro w hSw; (try dsimp only at hSw); go_simp; try with_reducible rfl)
          (try simp only [Act.put, List.getElem_toArray, List.getElem_cons_succ, List.getElem_cons_zero, List.setIfInBounds_toArray, List.set_cons_zero, List.set_cons_succ])
          refine wpAnyL_take (i := 3) (v := ?_) rfl (by kernel_rfl) (by kernel_rfl) (by kernel_rfl) (by kernel_rfl) (fun _ _ _ h => h) (Or.inl ⟨by kernel_rfl, ?_⟩) (by assumption) ?_
          rotate_left
          · (intro w hSw; (try dsimp only at hSw); go_simp; try with_reducible rfl)
          (try simp only [Act.put, List.getElem_toArray, List.getElem_cons_succ, List.getElem_cons_zero, List.setIfInBounds_toArray, List.set_cons_zero, List.set_cons_succ])
          refine wpAnyL_take (i := 4) (v := ?_) rfl (by kernel_rfl) (by kernel_rfl) (by kernel_rfl) (by kernel_rfl) (fun _ _ _ h => h) (Or.inl ⟨by kernel_rfl, ?_⟩) (by assumption) ?_
          rotate_left
          · (intro w hSw; (try dsimp only at hSw); go_simp; try with_reducible rfl)
          (try simp only [Act.put, List.getElem_toArray, List.getElem_cons_succ, List.getElem_cons_zero, List.setIfInBounds_toArray, List.set_cons_zero, List.set_cons_succ])
          refine wpAnyL_take (i := 5) (v := ?_) rfl (by kernel_rfl) (by kernel_rfl) (by kernel_rfl) (by kernel_rfl) (fun _ _ _ h => h) (Or.inl ⟨by kernel_rfl, ?_⟩) (by assumption) ?_
          rotate_left
          · (intro w hSw; (try dsimp only at hSw); go_simp; try with_reducible rfl)
          (try simp only [Act.put, List.getElem_toArray, List.getElem_cons_succ, List.getElem_cons_zero, List.setIfInBounds_toArray, List.set_cons_zero, List.set_cons_succ])
          refine wpAnyL_take (i := 6) (v := ?_) rfl (by kernel_rfl) (by kernel_rfl) (by kernel_rfl) (by kernel_rfl) (fun _ _ _ h => h) (Or.inl ⟨by kernel_rfl, ?_⟩) (by assumption) ?_
          rotate_left
          · (intro w hSw; (try dsimp only at hSw); go_simp; try with_reducible rfl)
          (try simp only [Act.put, List.getElem_toArray, List.getElem_cons_succ, List.getElem_cons_zero, List.setIfInBounds_toArray, List.set_cons_zero, List.set_cons_succ])
          refine wpAnyL_take (i := 7) (v := ?_) rfl (by kernel_rfl) (by kernel_rfl) (by kernel_rfl) (by kernel_rfl) (fun _ _ _ h => h) (Or.inl ⟨by kernel_rfl, ?_⟩) (by assumption) ?_
          rotate_left
          · (intro w hSw; (try dsimp only at hSw); go_simp; try with_reducible rfl)
          (try simp only [Act.put, List.getElem_toArray, List.getElem_cons_succ, List.getElem_cons_zero, List.setIfInBounds_toArray, List.set_cons_zero, List.set_cons_succ])
          refine wpAnyL_take (i := 8) (v := ?_) rfl (by kernel_rfl) (by kernel_rfl) (by kernel_rfl) (by kernel_rfl) (fun _ _ _ h => h) (Or.inl ⟨by kernel_rfl, ?_⟩) (by assumption) ?_
          rotate_left
          · (intro w hSw; (try dsimp only at hSw); go_simp; try with_reducible rfl)
          (try simp only [Act.put, List.getElem_toArray, List.getElem_cons_succ, List.getElem_cons_zero, List.setIfInBounds_toArray, List.set_cons_zero, List.set_cons_succ])
          refine wpAnyL_take (i := 9) (v := ?_) rfl (by kernel_rfl) (by kernel_rfl) (by kernel_rfl) (by kernel_rfl) (fun _ _ _ h => h) (Or.inl ⟨by kernel_rfl, ?_⟩) (by assumption) ?_
          rotate_left
          · (intro w hSw; (try dsimp only at hSw); go_simp; try with_reducible rfl)
          (try simp only [Act.put, List.getElem_toArray, List.getElem_cons_succ, List.getElem_cons_zero, List.setIfInBounds_toArray, List.set_cons_zero, List.set_cons_succ])
          refine wpAnyL_take (i := 10) (v := ?_) rfl (by kernel_rfl) (by kernel_rfl) (by kernel_rfl) (by kernel_rfl) (fun _ _ _ h => h) (Or.inl ⟨by kernel_rfl, ?_⟩) (by assumption) ?_
          rotate_left
          · (intro w hSw; (try dsimp only at hSw); go_simp; try with_reducible rfl)
          (try simp only [Act.put, List.getElem_toArray, List.getElem_cons_succ, List.getElem_cons_zero, List.setIfInBounds_toArray, List.set_cons_zero, List.set_cons_succ])
          refine wpAnyL_last (w' := wr.drew.setCell ⟨C, a + j, none⟩ (.int .u8 ((X ^^^ Y).toNat : Int))) (by kernel_rfl) rfl (by kernel_rfl) (by kernel_rfl) (by go_simp) ?_
          (try simp only [Act.put, List.getElem_toArray, List.getElem_cons_succ, List.getElem_cons_zero, List.setIfInBounds_toArray, List.set_cons_zero, List.set_cons_succ])
          have hput := mine_put (Mine.drewN Hmq.out 1) (by rw [turned_len, hlen.out]) (a + j) (X ^^^ Y)
          rw [← Hsuc.out] at hput
          go_wp2
          go_roundw
          case rel => exact ⟨j + 1, by omega, by simp, hput.1, grown_set (grown_drew hgq 1) _ _⟩
          case measure => simp [intOf]; omega
        · obtain rfl : j = 4 := by omega
          have hjn : ¬ (4 : Int) < 4 := by omega
          obtain ⟨T, hT⟩ : ∃ T, turned ks a ys 4 = T := ⟨_, rfl⟩
          have hTl : T.length = n := by rw [← hT, turned_len, hlen.out]
          rw [hT] at hmq Hsum
          have hCG : C ≠ G := by omega
          have htq := ht3.grown hgq (fun e => hCG (by injection e with e; exact e.symm))
          have hkq := bs_row hk3 hB3.size hgq (fun r e => by injection e with e; have := hB3.size; omega)
          have hBq := hB3.grown hgq hB3.size (fun r e => by injection e with e; omega)
          have hbT : Bs wr wr.heap.size (some ⟨C, 0, none⟩) n cap T := by
            obtain ⟨A', c', e1, e2, _⟩ := hmq.bs (by omega)
            rw [hTl] at e1 e2
            injection e1 with e1 e3 e4
            subst e1 e4
            exact e2
          have hsq := hBq.size
          have hgs := hgq.size
          have hAk : 0 < n → ∀ a, A = some a → a.block ≠ G := bs_off hk3 hs1
          clear hmq hT Hm3 Hys hysl hgq
          go_wp2_with fail
          refine (sum_any G false T (some ⟨C, 0, none⟩) n cap wr htq hbT (fun _ a e => by cases e; exact hCG)).mono ?_
          rintro e w5 ⟨rfl, ht5, hg5⟩
          have hk5 := bs_grown hkq hsq hAk hg5
          have hB5 := hBq.grown hg5 hsq (fun r e => by cases e; exact hs1)
          have hs5 := hB5.size
          have hs35 := hg5.size
          go_wp2_with fail
          refine (sum_any G _ ks A n c w5 ht5 (hk5.more hs5) hAk).mono ?_
          rintro e w6 ⟨rfl, ht6, hg6⟩
          have hk6 := bs_grown hk5 hs5 hAk hg6
          have hB6 := hB5.grown hg6 hs5 (fun r e => by cases e; exact hs1)
          have hs6 := hB6.size
          have hs56 := hg6.size
          have hne : ¬ ((ext 0 T : Nat) : Int) = ((ext 0 ks : Nat) : Int) := fun e => Hsum.out (by omega)
          generalize ext 0 T = ET at *
          generalize hEK : ext 0 ks = EK at *
          clear hbT hk5 hkq hg5 hg6 htq ht5 hBq hB5
          go_wp2_with fail
          refine (frame_any G _ ks A n c w6 ht6 (hk6.more hs6) (by omega) hAk).mono ?_
          rintro e w7 ⟨v7, rfl, hm7, ht7, hg7⟩
          have hk7 := bs_grown hk6 hs6 hAk hg7
          have hB7 := hB6.grown hg7 hs6 (fun r e => by cases e; exact hs1)
          have hs67 := hg7.size
          have hfl := frameB_len ks
          have hul := uvar_len10 ks.length (by rw [hlen.out]; omega)
          rw [hlen.out] at hfl hul
          obtain ⟨L, hL⟩ : ∃ L, (frameB ks).length = L := ⟨_, rfl⟩
          have hL0 : 4 < L := by omega
          have hL1 : L ≤ 3014 := by omega
          obtain ⟨Fg, fcap, e7, hF0, hF1⟩ := World.ownsRow.form hm7 (by omega)
          rw [hL] at e7 hfl
          subst e7
          clear hfl hul
          obtain ⟨bt, hbt, hbe⟩ := place_any bit (8 * L) (by omega) (by omega)
          have hbe2 : (wrap64 (bit.tmod (8 * (L : Int)) + 8 * (L : Int))).tmod (8 * (L : Int)) = (bt : Int) := by
            have h1 := Int.tmod_lt_of_pos bit (show 0 < 8 * (L : Int) by omega)
            have h2 := Int.lt_tmod_of_pos bit (show 0 < 8 * (L : Int) by omega)
            rw [wrap64_small _ (by omega) (by omega), ← hbe]
            rw [show ((8 * L : Nat) : Int) = 8 * (L : Int) by omega]
          have Hbe := hide hbe2
          clear hbe hbe2
          go_wp2
          rw [Hbe.out]
          have hqL : bt / 8 < L := by omega
          have hrL : bt % 8 < 8 := by omega
          have hq1 : (bt : Int).tdiv 8 = ((bt / 8 : Nat) : Int) := by rw [Int.tdiv_eq_ediv_of_nonneg (by omega)]; omega
          have hr1 : (bt : Int).tmod 8 = ((bt % 8 : Nat) : Int) := by rw [Int.tmod_eq_emod_of_nonneg (by omega)]; omega
          have hq2 : (bt : Int) / 8 = ((bt / 8 : Nat) : Int) := by omega
          have hr2 : (bt : Int) % 8 = ((bt % 8 : Nat) : Int) := by omega
          have hql : bt / 8 < (frameB ks).length := by omega
          have hcq : w7.cell? ⟨Fg, bt / 8, none⟩ = some (.int .u8 ((frameB ks)[bt / 8].toNat : Int)) := by
            have hcc := World.ownsRow.cellAt (mine_row hm7 hL) (bt / 8) (by omega)
            rw [List.getElem?_map, List.getElem?_eq_getElem hql] at hcc
            exact hcc
          have hfq := World.ownsRow.frozenAt (mine_row hm7 hL) (bt / 8)
          have hp0 := pow_bit hrL
          have hp2 : (2 : Int) ^ (bt % 8) = ((UInt8.ofNat (2 ^ (bt % 8))).toNat : Int) := by rw [hp0]; simp
          have hy0 : UInt8.ofNat (2 ^ (bt % 8)) ≠ 0 := fun e => by
            have h1 := congrArg UInt8.toNat e
            rw [hp0] at h1
            have := Nat.two_pow_pos (bt % 8)
            simp at h1
          have hno := unfr_turned ks (bt / 8) (UInt8.ofNat (2 ^ (bt % 8))) hql hy0
          generalize UInt8.ofNat (2 ^ (bt % 8)) = Y at *
          generalize bt / 8 = q at *
          generalize bt % 8 = r at *
          have hput := fun V => mine_put (w := w7.drew) (Mine.drewN hm7 1) hL q V
          have hput' := hput ((frameB ks)[q] ^^^ Y)
          have hx8 := xor_u8_nat (frameB ks)[q].toNat Y.toNat (frameB ks)[q].toNat_lt Y.toNat_lt
          rw [← UInt8.toNat_xor] at hx8
          have HF := hide (show (frameB ks).length = L from hL)
          obtain ⟨F2, hF2⟩ : ∃ F2, (frameB ks).set q ((frameB ks)[q] ^^^ Y) = F2 := ⟨_, rfl⟩
          have hF2l : F2.length = L := by rw [← hF2, List.length_set, hL]
          rw [hF2] at hput' hno
          generalize (frameB ks)[q] = X at *
          have i0 : (0 : Int) ≤ (q : Int) := by omega
          have i1 : (q : Int) < (L : Int) := by omega
          have i3 : (0 : Int) ≤ (r : Int) := by omega
          have hwy : IntKind.u8.wrap (Y.toNat : Int) = (Y.toNat : Int) := by have := Y.toNat_lt; simp [IntKind.wrap, IntKind.bits, IntKind.signed]; omega
          have hwq : IntKind.i64.wrap (q : Int) = (q : Int) := by simp [IntKind.wrap, IntKind.bits, IntKind.signed]; omega
          have hwr : IntKind.i64.wrap (r : Int) = (r : Int) := by simp [IntKind.wrap, IntKind.bits, IntKind.signed]; omega
          have hHS : w7.drew.cell? ⟨Fg, q, none⟩ = some (.int .u8 (X.toNat : Int)) := hcq
          have Hput := hide hput'
          have Hno := hide hno
          clear hput' hno hput hm7 hL hF2 hp0 hy0 Hbe
          refine region_last 10 (S := fun W => W.cell? ⟨Fg, q, none⟩ = some (.int .u8 (X.toNat : Int))) (by kernel_rfl) (hHS) (fun hHeld => ?_)
          refine wpAnyL_take (i := 0) (v := ?_) rfl (by kernel_rfl) (by kernel_rfl) (by kernel_rfl) (by kernel_rfl) (fun _ _ _ h => h) (Or.inl ⟨by kernel_rfl, ?_⟩) (by assumption) ?_
          rotate_left
          · (intro w hSw; (try dsimp only at hSw); go_simp; try with_reducible rfl)
          (try simp only [Act.put, List.getElem_toArray, List.getElem_cons_succ, List.getElem_cons_zero, List.setIfInBounds_toArray, List.set_cons_zero, List.set_cons_succ])
          refine wpAnyL_take (i := 1) (v := ?_) rfl (by kernel_rfl) (by kernel_rfl) (by kernel_rfl) (by kernel_rfl) (fun _ _ _ h => h) (Or.inl ⟨by kernel_rfl, ?_⟩) (by assumption) ?_
          rotate_left
          · (intro w hSw; (try dsimp only at hSw); go_simp; try with_reducible rfl)
          (try simp only [Act.put, List.getElem_toArray, List.getElem_cons_succ, List.getElem_cons_zero, List.setIfInBounds_toArray, List.set_cons_zero, List.set_cons_succ])
          refine wpAnyL_take (i := 2) (v := ?_) rfl (by kernel_rfl) (by kernel_rfl) (by kernel_rfl) (by kernel_rfl) (fun _ _ _ h => h) (Or.inl ⟨by kernel_rfl, ?_⟩) (by assumption) ?_
          rotate_left
          · (intro w hSw; (try dsimp only at hSw); go_simp; try with_reducible rfl)
          (try simp only [Act.put, List.getElem_toArray, List.getElem_cons_succ, List.getElem_cons_zero, List.setIfInBounds_toArray, List.set_cons_zero, List.set_cons_succ])
          refine wpAnyL_take (i := 3) (v := ?_) rfl (by kernel_rfl) (by kernel_rfl) (by kernel_rfl) (by kernel_rfl) (fun _ _ _ h => h) (Or.inl ⟨by kernel_rfl, ?_⟩) (by assumption) ?_
          rotate_left
          · (intro w hSw; (try dsimp only at hSw); go_simp; try with_reducible rfl)
          (try simp only [Act.put, List.getElem_toArray, List.getElem_cons_succ, List.getElem_cons_zero, List.setIfInBounds_toArray, List.set_cons_zero, List.set_cons_succ])
          refine wpAnyL_take (i := 4) (v := ?_) rfl (by kernel_rfl) (by kernel_rfl) (by kernel_rfl) (by kernel_rfl) (fun _ _ _ h => h) (Or.inl ⟨by kernel_rfl, ?_⟩) (by assumption) ?_
          rotate_left
          · (intro w hSw; (try dsimp only at hSw); go_simp; try with_reducible rfl)
          (try simp only [Act.put, List.getElem_toArray, List.getElem_cons_succ, List.getElem_cons_zero, List.setIfInBounds_toArray, List.set_cons_zero, List.set_cons_succ])
          refine wpAnyL_take (i := 5) (v := ?_) rfl (by kernel_rfl) (by kernel_rfl) (by kernel_rfl) (by kernel_rfl) (fun _ _ _ h => h) (Or.inl ⟨by kernel_rfl, ?_⟩) (by assumption) ?_
          rotate_left
          · (intro w hSw; (try dsimp only at hSw); go_simp; try with_reducible rfl)
          (try simp only [Act.put, List.getElem_toArray, List.getElem_cons_succ, List.getElem_cons_zero, List.setIfInBounds_toArray, List.set_cons_zero, List.set_cons_succ])
          refine wpAnyL_take (i := 6) (v := ?_) rfl (by kernel_rfl) (by kernel_rfl) (by kernel_rfl) (by kernel_rfl) (fun _ _ _ h => h) (Or.inl ⟨by kernel_rfl, ?_⟩) (by assumption) ?_
          rotate_left
          · (intro w hSw; (try dsimp only at hSw); go_simp; try with_reducible rfl)
          (try simp only [Act.put, List.getElem_toArray, List.getElem_cons_succ, List.getElem_cons_zero, List.setIfInBounds_toArray, List.set_cons_zero, List.set_cons_succ])
          refine wpAnyL_take (i := 7) (v := ?_) rfl (by kernel_rfl) (by kernel_rfl) (by kernel_rfl) (by kernel_rfl) (fun _ _ _ h => h) (Or.inl ⟨by kernel_rfl, ?_⟩) (by assumption) ?_
          rotate_left
          · (intro w hSw; (try dsimp only at hSw); go_simp; try with_reducible rfl)
          (try simp only [Act.put, List.getElem_toArray, List.getElem_cons_succ, List.getElem_cons_zero, List.setIfInBounds_toArray, List.set_cons_zero, List.set_cons_succ])
          refine wpAnyL_take (i := 8) (v := ?_) rfl (by kernel_rfl) (by kernel_rfl) (by kernel_rfl) (by kernel_rfl) (fun _ _ _ h => h) (Or.inl ⟨by kernel_rfl, ?_⟩) (by assumption) ?_
          rotate_left
          · (intro w hSw; (try dsimp only at hSw); go_simp; try with_reducible rfl)
          (try simp only [Act.put, List.getElem_toArray, List.getElem_cons_succ, List.getElem_cons_zero, List.setIfInBounds_toArray, List.set_cons_zero, List.set_cons_succ])
          refine wpAnyL_take (i := 9) (v := ?_) rfl (by kernel_rfl) (by kernel_rfl) (by kernel_rfl) (by kernel_rfl) (fun _ _ _ h => h) (Or.inl ⟨by kernel_rfl, ?_⟩) (by assumption) ?_
          rotate_left
          · (intro w hSw; (try dsimp only at hSw); go_simp; try with_reducible rfl)
          (try simp only [Act.put, List.getElem_toArray, List.getElem_cons_succ, List.getElem_cons_zero, List.setIfInBounds_toArray, List.set_cons_zero, List.set_cons_succ])
          refine wpAnyL_last (w' := w7.drew.setCell ⟨Fg, q, none⟩ (.int .u8 ((X ^^^ Y).toNat : Int))) (by kernel_rfl) rfl (by kernel_rfl) (by kernel_rfl) (by go_simp) ?_
          (try simp only [Act.put, List.getElem_toArray, List.getElem_cons_succ, List.getElem_cons_zero, List.setIfInBounds_toArray, List.set_cons_zero, List.set_cons_succ])
          obtain ⟨hm8, hg8⟩ := Hput.out
          rw [show (b8 (X ^^^ Y)) = .int .u8 ((X ^^^ Y).toNat : Int) from rfl] at hm8 hg8
          replace hg8 := grown_of_drew hg8
          generalize w7.drew.setCell ⟨Fg, q, none⟩ (.int .u8 ((X ^^^ Y).toNat : Int)) = w8 at *
          have hFG : Fg ≠ G := by omega
          have ht8 := ht7.grown hg8 (fun e => hFG (by injection e with e; exact e.symm))
          have hk8 := bs_row hk7 hB7.size hg8 (fun r e => by injection e with e; omega)
          have hB8 := hB7.grown hg8 hB7.size (fun r e => by injection e with e; omega)
          have hbF : Bs w8 w8.heap.size (some ⟨Fg, 0, none⟩) L fcap F2 := by
            obtain ⟨A', c', e1, e2, _⟩ := hm8.bs (by omega)
            rw [hF2l] at e1 e2
            injection e1 with e1 e3 e4
            subst e1 e4
            exact e2
          have hs8 := hB8.size
          clear Hput hm8 hg8 hk7 hk6 ht7 ht6 hg7 hB7 hB6 hHS hHeld hcq hfq hx8
          go_wp2_with fail
          refine (unframe_any G _ F2 (some ⟨Fg, 0, none⟩) L fcap w8 ht8 hbF (fun _ a e => by cases e; exact hFG)).mono ?_
          rintro e w9 ⟨hx, ⟨b9, ht9⟩, hg9⟩
          have hk9 := bs_grown hk8 hs8 hAk hg9
          have hB9 := hB8.grown hg9 hs8 (fun r e => by cases e; exact hs1)
          cases hu : unfr F2 with
          | error c' =>
            rw [hu] at hx
            obtain rfl : e = .returned (.tuple #[.slice none 0 0, .int .i64 0, .int .i64 c']) := hx
            have hc0 : ¬ c' = 0 := by have := unfr_err hu; omega
            go_wp2
            go_ret
            exact ⟨rfl, hB9⟩
          | ok pk =>
            obtain ⟨p, k⟩ := pk
            rw [hu] at hx
            obtain ⟨v, rfl, hmp⟩ := hx
            have hpk := Hno.out p k hu
            have hpl := (unfr_once hu).2.2
            obtain ⟨A5, L5, c5, rfl, hL5, hb5⟩ := Mine.bsL hmp (by omega)
            have s1 := run_str (P := Try.prog) 22 5 9 Try.underlying22 Try.underlying5 Try.underlying9 hb5
            have s2 := run_str (P := Try.prog) 22 5 9 Try.underlying22 Try.underlying5 Try.underlying9 hk9
            clear hL5
            have hpe : (p == ks) = false := by simpa using hpk
            go_wp2
            go_ret
            exact ⟨by simp [hpe], hB9⟩

end Go.Proofs.Ytdnhpmdmkdgmpaa
