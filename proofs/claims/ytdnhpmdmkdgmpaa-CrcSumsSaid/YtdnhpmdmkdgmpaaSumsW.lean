/-
  The walk of the law CrcSums: it answers true. Condition: both slices read as bytes.
-/
import Derived.Test.YtdnhpmdmkdgmpaaRefC
import Derived.Deep.Onto
namespace Go.Proofs.Ytdnhpmdmkdgmpaa
open Go.RowKit Go.Shelf

theorem neg_neg {x : Nat} (h : x < 4294967296) : neg32 (neg32 x) = x := by unfold neg32; omega
theorem ext_append (s : Nat) (hs : s < 4294967296) (a b : List UInt8) : ext (ext s a) b = ext s (a ++ b) := by
  have hnl : neg32 s < 4294967296 := by unfold neg32; omega
  unfold ext
  rw [neg_neg (fold_lt a hnl), List.foldl_append]

theorem Mine.bsA' {e : TypeId} {w : World} {base : Nat} {v : Value} {ks : List UInt8} (h : Mine e w base v ks) (hr : ks.length ≤ 140737488351232) : ∃ A L c, v = .slice A L c ∧ L = ks.length ∧ Bs w w.heap.size A L c ks ∧ ∀ a, A = some a → base ≤ a.block := by
  obtain ⟨A, c, e1, e2, _, e4⟩ := h.bs hr
  exact ⟨A, _, c, e1, rfl, e2, fun a ha => by obtain ⟨g, rfl, h1, _⟩ := e4 a ha; exact h1⟩

set_option maxRecDepth 100000 in
set_option maxHeartbeats 4000000 in
theorem sums_any (ks : List UInt8) (A : Option Addr) (n c : Nat) (ls : List UInt8) (A2 : Option Addr) (n2 c2 : Nat) (x : Int) (w : World) (hk : Bs w w.heap.size A n c ks) (hl : Bs w w.heap.size A2 n2 c2 ls) (hx0 : 0 ≤ x) (hx1 : x ≤ 4294967295) :
    Calls Try.prog 4 #[.slice A n c, .slice A2 n2 c2, .int .u32 x] w fun e w' => e = .returned (.bool true) ∧ Below w.heap.size w w' := by
  obtain ⟨s, rfl⟩ := Int.eq_ofNat_of_zero_le hx0
  have hs : s < 4294967296 := by omega
  have hn := hk.reach
  have hn2 := hl.reach
  have hlen := hide hk.len
  have hlen2 := hide hl.len
  go_enter Try.func4, Try.ntmps4
  go_wp2_with fail
  refine (awake_any w).mono ?_
  rintro e w1 ⟨rfl, hB1⟩
  have hs1 := hB1.size
  by_cases hlong : 5000 < n + n2
  · have hlong' : (5000 : Int) < (n : Int) + (n2 : Int) := by omega
    go_wp2
    go_ret
    exact ⟨rfl, hB1⟩
  · have hlong' : ¬ (5000 : Int) < (n : Int) + (n2 : Int) := by omega
    go_wp2_with fail
    refine (new_any w1).mono ?_
    rintro e w2 ⟨rfl, rfl⟩
    have ht2 : Tbl (w1.alloc (.cells (tbCells 1) 44)) w1.heap.size false := tb_of _ _ 1 (Blk.new w1 44 _)
    have hB2 := hB1.alloc hs1 (.cells (tbCells 1) 44)
    obtain ⟨G, hG⟩ : ∃ G, w1.heap.size = G := ⟨_, rfl⟩
    have hz : (w1.alloc (.cells (tbCells 1) 44)).heap.size = G + 1 := by simp [hG]
    generalize w1.alloc (.cells (tbCells 1) 44) = w2 at *
    rw [hG] at ht2 hs1 ⊢
    clear hG hB1
    have hk2 := hk.below hB2
    have hl2 := hl.below hB2
    obtain ⟨v3, w3, hrun3, hm3, hg3, _⟩ := append_mine (P := Try.prog) 22 Try.underlying22 info5 (Mine.nil 5 w2 w2.heap.size) (Nat.le_refl _) hk2 (by simp; omega)
    have hr3 := mine_far (Mine.nil 5 w2 w2.heap.size)
    have hk3 := bs_row hk2 (by omega) hg3 (fun r e => by cases e)
    have hl3 := bs_row hl2 (by omega) hg3 (fun r e => by cases e)
    have ht3 := ht2.grown hg3 (fun e => by cases e)
    have hB3 := hB2.grown hg3 hB2.size (fun r e => by cases e)
    have hs3 := hg3.size
    rw [List.nil_append] at hm3
    obtain ⟨v4, w4, hrun4, hm4, hg4, _⟩ := append_mine (P := Try.prog) 22 Try.underlying22 info5 hm3 (by omega) hl3 (by rw [hlen.out]; omega)
    have hr4 := mine_far hm3
    have hk4 := bs_row hk3 (by omega) hg4 (fun r e => by have := hr4 r e; omega)
    have hl4 := bs_row hl3 (by omega) hg4 (fun r e => by have := hr4 r e; omega)
    have ht4 := ht3.grown hg4 (fun e => by have := hr4 G e.symm; omega)
    have hB4 := hB3.grown hg4 hB3.size (fun r e => by have := hr4 r e; omega)
    have hs4 := hg4.size
    obtain ⟨A5, L5, c5, rfl, hL5, hb5, hA5⟩ := Mine.bsA' hm4 (by rw [List.length_append, hlen.out, hlen2.out]; omega)
    rw [hz] at hA5
    have H3 := hide hrun3
    have H4 := hide hrun4
    clear hL5 hm3 hm4 hg3 hg4 hr3 hr4 ht2 ht3 hB2 hB3 hk2 hl2 hk3 hl3 hrun3 hrun4 hk hl
    have hAk : 0 < n → ∀ a, A = some a → a.block ≠ G := bs_off hk4 hs1
    have hAl : 0 < n2 → ∀ a, A2 = some a → a.block ≠ G := bs_off hl4 hs1
    have hA5' : 0 < L5 → ∀ a, A5 = some a → a.block ≠ G := fun _ a ha => by have := hA5 a ha; omega
    have hel : ext 0 ks < 4294967296 := ext_lt ks (by omega)
    have hap := ext_append 0 (by omega) ks ls
    have hum := unmask_mask hs
    have hmu := mask_unmask hs
    have hml := maskN_lt s
    have hul : unmaskN s < 4294967296 := rot15_lt (Nat.mod_lt _ (by decide))
    have hsw4 := hB4.size
    clear hA5
    go_wp2_with (first
      | (at_builtin; refine wpList_append_run rfl _ _ 22 rfl _ _ _ rfl rfl H3.out ?_)
      | (at_builtin; refine wpList_append_run rfl _ _ 22 rfl _ _ _ rfl rfl H4.out ?_))
    refine (sum_any G false ks A n c w4 ht4 (hk4.more hsw4) hAk).mono ?_
    rintro e w5 ⟨rfl, ht5, hg5⟩
    have hk5 := bs_grown hk4 hsw4 hAk hg5
    have hl5 := bs_grown hl4 hsw4 hAl hg5
    have hb5' := bs_grown hb5 (Nat.le_refl _) hA5' hg5
    have hB5 := hB4.grown hg5 hsw4 (fun r e => by cases e; exact hs1)
    have hsw5 := hB5.size
    have hs45 := hg5.size
    go_wp2_with fail
    refine (refsum_any ks A n c _ w5 hk5).mono ?_
    rintro e w6 ⟨rfl, rfl⟩
    go_wp2_with fail
    refine (ext_any G _ s hs ls A2 n2 c2 w5 ht5 (hl5.more hsw5) hAl).mono ?_
    rintro e w6 ⟨rfl, ht6, hg6⟩
    have hk6 := bs_grown hk5 hsw5 hAk hg6
    have hl6 := bs_grown hl5 hsw5 hAl hg6
    have hb6 := bs_grown hb5' hs45 hA5' hg6
    have hB6 := hB5.grown hg6 hsw5 (fun r e => by cases e; exact hs1)
    have hsw6 := hB6.size
    have hs56 := hg6.size
    go_wp2_with fail
    refine (refext_any s hs ls A2 n2 c2 _ w6 hl6).mono ?_
    rintro e w7 ⟨rfl, rfl⟩
    clear hk4 hl4 hb5 hk5 hl5 hb5' hg5 hg6 hB4 hB5 ht4 ht5
    go_wp2_with fail
    refine (sum_any G _ ks A n c w6 ht6 (hk6.more hsw6) hAk).mono ?_
    rintro e w7 ⟨rfl, ht7, hg7⟩
    have hl7 := bs_grown hl6 hsw6 hAl hg7
    have hb7 := bs_grown hb6 (by omega) hA5' hg7
    have hB7 := hB6.grown hg7 hsw6 (fun r e => by cases e; exact hs1)
    have hsw7 := hB7.size
    have hs67 := hg7.size
    go_wp2_with fail
    refine (ext_any G _ (ext 0 ks) hel ls A2 n2 c2 w7 ht7 (hl7.more hsw7) hAl).mono ?_
    rintro e w8 ⟨rfl, ht8, hg8⟩
    have hb8 := bs_grown hb7 (by omega) hA5' hg8
    have hB8 := hB7.grown hg8 hsw7 (fun r e => by cases e; exact hs1)
    have hs78 := hg8.size
    go_wp2_with fail
    refine (sum_any G _ (ks ++ ls) A5 L5 c5 w8 ht8 (hb8.more (by omega)) hA5').mono ?_
    rintro e w9 ⟨rfl, ht9, hg9⟩
    have hB9 := hB8.grown hg9 hB8.size (fun r e => by cases e; exact hs1)

    clear hk6 hl6 hb6 hl7 hb7 hb8 hg7 hg8 hg9 hB6 hB7 hB8 ht6 ht7 ht8 ht9
    go_wp2_with fail
    refine (mask_any s w9 hs).mono ?_
    rintro e w10 ⟨rfl, rfl⟩
    go_wp2_with fail
    refine (refmask_any s w9 hs).mono ?_
    rintro e w10 ⟨rfl, rfl⟩
    go_wp2_with fail
    refine (mask_any s w9 hs).mono ?_
    rintro e w10 ⟨rfl, rfl⟩
    go_wp2_with fail
    refine (unmask_any (maskN s) w9 hml).mono ?_
    rintro e w10 ⟨rfl, rfl⟩

    go_wp2_with fail
    refine (unmask_any s w9 hs).mono ?_
    rintro e w10 ⟨rfl, rfl⟩
    go_wp2_with fail
    refine (mask_any (unmaskN s) w9 hul).mono ?_
    rintro e w10 ⟨rfl, rfl⟩

    go_wp2
    go_ret
    exact ⟨rfl, hB9⟩

end Go.Proofs.Ytdnhpmdmkdgmpaa
