/-
  The walk of the law CodecReads: it answers true. Condition: the bytes read as such.
-/
import Derived.Test.YtdlbhppoknbnlaaRefR
namespace Go.Proofs.Ytdlbhppoknbnlaa
open Go.RowKit

theorem ansU_det (r : Except Int (Nat × Nat)) : ∃ (a k : Nat) (er : Int), ∀ e, AnsU r e → e = .returned (.tuple #[.int .u64 (a : Int), .int .i64 (k : Int), .int .i64 er]) := by
  cases r with
  | error c => exact ⟨0, 0, c, fun e h => h⟩
  | ok p => exact ⟨p.1, p.2, 0, fun e h => h⟩
theorem ansI_det (r : Except Int (Int × Nat)) : ∃ (a : Int) (k : Nat) (er : Int), ∀ e, AnsI r e → e = .returned (.tuple #[.int .i64 a, .int .i64 (k : Int), .int .i64 er]) := by
  cases r with
  | error c => exact ⟨0, 0, c, fun e h => h⟩
  | ok p => exact ⟨p.1, p.2, 0, fun e h => h⟩
theorem ansF_det (r : Except Int (List UInt8 × Nat)) (hr : ∀ f k, r = .ok (f, k) → f.length ≤ 1048576) :
    ∃ (f : List UInt8) (k : Nat) (er : Int), ∀ w e w', AnsF w r e w' → ∃ A L c, e = .returned (.tuple #[.slice A L c, .int .i64 (k : Int), .int .i64 er]) ∧ Bs w' w'.heap.size A L c f := by
  cases r with
  | error c => exact ⟨[], 0, c, fun w e w' h => ⟨none, 0, 0, h, Bs.nil _ _ _ _⟩⟩
  | ok p =>
    obtain ⟨f, k⟩ := p
    refine ⟨f, k, 0, fun w e w' ⟨v, e1, hm⟩ => ?_⟩
    obtain ⟨A, L, c, rfl, _, hb⟩ := Mine.bsL hm (by have := hr f k rfl; omega)
    exact ⟨A, L, c, e1, hb⟩
theorem ansL_det (r : Except Int (List (List UInt8) × Nat)) (hr : ∀ f k, r = .ok (f, k) → f.length ≤ 65536 ∧ ∀ x ∈ f, x.length ≤ 1048576) :
    ∃ (fs : List (List UInt8)) (L k : Nat) (er : Int), L ≤ 65536 ∧ ∀ w e w', AnsL w r e w' → ∃ A c, e = .returned (.tuple #[.slice A L c, .int .i64 (k : Int), .int .i64 er]) ∧ Bss w' w'.heap.size A L c fs := by
  cases r with
  | error c => exact ⟨[], 0, 0, c, by omega, fun w e w' h => ⟨none, 0, h, Bss.nil _ _ _ _⟩⟩
  | ok p =>
    obtain ⟨f, k⟩ := p
    have hf := hr f k rfl
    refine ⟨f, f.length, k, 0, hf.1, fun w e w' ⟨v, e1, hm⟩ => ?_⟩
    obtain ⟨A, L, c, rfl, rfl, hb⟩ := MineL.bss hm (by omega) (fun x hx => by have := hf.2 x hx; omega)
    exact ⟨A, c, e1, hb⟩

set_option maxRecDepth 100000 in
set_option maxHeartbeats 8000000 in
theorem reads_any (ks : List UInt8) (A : Option Addr) (l c : Nat) (wide : Int) (w : World) (h : Bs w w.heap.size A l c ks) (hw0 : -9223372036854775808 ≤ wide) (hw1 : wide ≤ 9223372036854775807) :
    Calls Try.prog 8 #[.slice A l c, .int .i64 wide] w fun e w' => e = .returned (.bool true) ∧ Below w.heap.size w w' := by
  go_enter Try.func8, Try.ntmps8
  go_wp2_with fail
  refine (awake_any w).mono ?_
  rintro e w0 ⟨rfl, hB0⟩
  by_cases hl : 5000 < l
  · have hl' : (5000 : Int) < (l : Int) := by omega
    go_wp2
    go_ret
    exact ⟨rfl, hB0⟩
  have hl' : ¬ (5000 : Int) < (l : Int) := by omega
  obtain ⟨a1, k1, er1, d1⟩ := ansU_det (readU ks)
  obtain ⟨a2, k2, er2, d2⟩ := ansI_det (readI ks)
  obtain ⟨a3, k3, er3, d3⟩ := ansU_det (readX ks wide)
  obtain ⟨f4, k4, er4, d4⟩ := ansF_det (readF ks) (fun f k hf => (readF_len hf).2)
  obtain ⟨fs5, L5, k5, er5, hL5, d5⟩ := ansL_det (readL ks) (fun f k hf => (readL_len hf).2)
  have D1 := hide d1
  have D2 := hide d2
  have D3 := hide d3
  have D4 := hide d4
  have D5 := hide d5
  clear d1 d2 d3 d4 d5
  go_wp2_with fail
  refine (readu_any ks A l c w.heap.size w0 (h.below hB0) hB0.size).mono ?_
  rintro e w1 ⟨he, hB1⟩
  obtain rfl := D1.out e he
  have hBw1 := hB0.trans (hB1.mono hB0.size)
  clear hB0 hB1 he
  go_wp2_with fail
  refine (refreadu_any ks A l c w.heap.size w1 (h.below hBw1)).mono ?_
  rintro e w2 ⟨he, rfl⟩
  obtain rfl := D1.out e he
  clear he
  go_wp2_with fail
  refine (readi_any ks A l c w.heap.size w1 (h.below hBw1) hBw1.size).mono ?_
  rintro e w2 ⟨he, hB2⟩
  obtain rfl := D2.out e he
  have hBw2 := hBw1.trans (hB2.mono hBw1.size)
  clear hBw1 hB2 he
  go_wp2_with fail
  refine (refreadi_any ks A l c w.heap.size w2 (h.below hBw2)).mono ?_
  rintro e w3 ⟨he, rfl⟩
  obtain rfl := D2.out e he
  clear he
  go_wp2_with fail
  refine (readx_any ks wide A l c w.heap.size w2 (h.below hBw2) hBw2.size hw0 hw1).mono ?_
  rintro e w3 ⟨he, hB3⟩
  obtain rfl := D3.out e he
  have hBw3 := hBw2.trans (hB3.mono hBw2.size)
  clear hBw2 hB3 he
  go_wp2_with fail
  refine (refreadx_any ks wide A l c w.heap.size w3 (h.below hBw3) hw0 hw1).mono ?_
  rintro e w4 ⟨he, rfl⟩
  obtain rfl := D3.out e he
  clear he
  go_wp2_with fail
  refine (readf_any ks A l c w.heap.size w3 (h.below hBw3) hBw3.size).mono ?_
  rintro e w4 ⟨he, hB4⟩
  obtain ⟨A4, L4, c4, rfl, hb4⟩ := D4.out _ e _ he
  have hBw4 := hBw3.trans (hB4.mono hBw3.size)
  clear hBw3 hB4 he
  go_wp2_with fail
  refine (refreadf_any ks A l c w.heap.size w4 (h.below hBw4) hBw4.size).mono ?_
  rintro e w5 ⟨he, hB5⟩
  obtain ⟨A5, M5, c5, rfl, hb5⟩ := D4.out _ e _ he
  have hBw5 := hBw4.trans (hB5.mono hBw4.size)
  have t4 := strAt (hb4.below hB5)
  have t5 := strAt hb5
  clear hBw4 he
  go_wp2_with fail
  refine (readl_any ks A l c w.heap.size _ (h.below hBw5) hBw5.size).mono ?_
  rintro e w6 ⟨he, hB6⟩
  obtain ⟨A6, c6, rfl, hb6⟩ := D5.out _ e _ he
  have hBw6 := hBw5.trans (hB6.mono hBw5.size)
  clear hBw5 he t4 t5 hB5 hb4 hb5 hB6
  go_wp2_with fail
  refine (refreadl_any ks A l c w.heap.size _ (h.below hBw6) hBw6.size).mono ?_
  rintro e w7 ⟨he, hB7⟩
  obtain ⟨A7, c7, rfl, hb7⟩ := D5.out _ e _ he
  have hBw7 := hBw6.trans (hB7.mono hBw6.size)
  have hb6' := (hb6.below hB7).more hB7.size
  clear hBw6 he hB7 hb6
  go_wp2_with fail
  refine (same_any fs5 A6 A7 L5 c6 c7 w7.heap.size w7 hb6' hb7 (Nat.le_refl _) (by omega)).mono ?_
  rintro e w8 ⟨rfl, hB8⟩
  go_wp2
  go_ret
  exact ⟨rfl, hBw7.trans (hB8.mono hBw7.size)⟩

end Go.Proofs.Ytdlbhppoknbnlaa
