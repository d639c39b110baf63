/-
  The walk of the law CodecFields: it answers true. Condition: the list, and the bytes, read as such.
-/
import Derived.Test.YtdlbhppoknbnlaaRound
namespace Go.Proofs.Ytdlbhppoknbnlaa
open Go.RowKit Go.Shelf

attribute [local go_sem] Oper.semAt_some

theorem each_any (R : Nat) (w : World) :
    Calls Try.prog 39 #[.pointer (some ⟨R, 0, none⟩)] w fun e w' => e = .returned (.func (.func 70) #[] #[.pointer (some ⟨w.heap.size, 0, none⟩)]) ∧ w' = w.alloc (.cells #[.pointer (some ⟨R, 0, none⟩)] 47) := by
  have hmf : ∀ (fn : Fn) (first cap : Array Value) (w : World), (Instr.makeFunc fn first cap).run Try.prog w = .ok (.func fn first cap) w := fun _ _ _ _ => rfl
  go_enter Try.func39, Try.ntmps39
  go_wp2
  go_ret
  exact ⟨rfl, rfl⟩

theorem boxed_keep {W W' : World} {T R B : Nat} {t : TypeId} {v : Value} {row : Option Nat} (h : Boxed W T t v) (hg : W.grownBy W' row) (hrow : ∀ r, row = some r → r = R ∨ (B ≤ r ∧ ∃ o : Obj, W.heap[r]? = some o ∧ o.isCells = false)) (hne : T ≠ R) : Boxed W' T t v :=
  h.kept hg (fun e => by
    rcases hrow T e.symm with h1 | ⟨_, o, ho, hc⟩
    · exact hne h1
    · rw [show W.heap[T]? = _ from h] at ho
      cases ho
      cases hc)

def sumL (kss : List (List UInt8)) : Nat := (kss.map List.length).sum
theorem sumL_take (kss : List (List UInt8)) (i : Nat) (hi : i < kss.length) : sumL (kss.take (i + 1)) = sumL (kss.take i) + kss[i].length := by
  have h : kss.take (i + 1) = kss.take i ++ [kss[i]] := by rw [List.take_add_one, List.getElem?_eq_getElem hi]; rfl
  rw [h]
  simp only [sumL, List.map_append, List.map_cons, List.map_nil, List.sum_append, List.sum_cons, List.sum_nil, Nat.add_zero]
theorem sumL_mem (kss : List (List UInt8)) : ∀ f ∈ kss, f.length ≤ sumL kss := by
  induction kss with
  | nil => intro f hf; cases hf
  | cons k r ih =>
    intro f hf
    simp only [sumL, List.map_cons, List.sum_cons] at *
    rcases List.mem_cons.1 hf with rfl | h
    · omega
    · have := ih f h; omega

set_option maxRecDepth 100000 in
set_option maxHeartbeats 8000000 in
theorem flaw_any (kss : List (List UInt8)) (A : Option Addr) (n c : Nat) (ks : List UInt8) (A1 : Option Addr) (l c1 : Nat) (w : World) (h : Bss w w.heap.size A n c kss) (hn : n ≤ 5864062014634) (h1 : Bs w w.heap.size A1 l c1 ks) :
    Calls Try.prog 7 #[.slice A n c, .slice A1 l c1] w fun e w' => e = .returned (.bool true) ∧ Below w.heap.size w w' := by
  have hlen := hide h.len
  have hlr := h1.reach
  refine (callsIn_wide (n := 9)).1 ?_
  refine callsIn_of_wp_marks Try.func7 rfl trivial ?_ rfl
  simp only [Try.ntmps7, List.size_toArray, List.length_cons, List.length_nil, Nat.reduceAdd, Nat.reduceSub, Array.replicate_succ, Array.replicate_zero, List.push_toArray, List.append_toArray, List.nil_append, List.cons_append]
  have f9 : Fence.wide.fn 9 := trivial
  have f21 : Fence.wide.fn 21 := trivial
  have f37 : Fence.wide.fn 37 := trivial
  have f20 : Fence.wide.fn 20 := trivial
  have f38 : Fence.wide.fn 38 := trivial
  have f19 : Fence.wide.fn 19 := trivial
  have f22 : Fence.wide.fn 22 := trivial
  have f39 : Fence.wide.fn 39 := trivial
  have f35 : Fence.wide.fn 35 := trivial
  have f33 : Fence.wide.fn 33 := trivial
  gi_wp2_with fail
  have y0 := (Blk.new w 41 #[.slice A n c]).alloc (.cells #[.bool false] 4)
  have y1 := Blk.new (w.alloc (.cells #[.slice A n c] 41)) 4 #[.bool false]
  rw [World.size_alloc] at y1
  have hBW := ((Below.refl _ w).alloc (Nat.le_refl _) (.cells #[.slice A n c] 41)).alloc (by simp) (.cells #[.bool false] 4)
  have hsW : ((w.alloc (.cells #[.slice A n c] 41)).alloc (.cells #[.bool false] 4)).heap.size = w.heap.size + 1 + 1 := by simp
  generalize ((w.alloc (.cells #[.slice A n c] 41)).alloc (.cells #[.bool false] 4)) = WA at *
  refine (callsIn_wide.2 (awake_any WA)).mono ?_
  rintro e w0 ⟨rfl, hB0⟩
  have z0 : Boxed w0 w.heap.size 41 (.slice A n c) := Blk.below y0 hB0 (by omega)
  have z1 : Boxed w0 (w.heap.size + 1) 4 (.bool false) := Blk.below y1 hB0 (by omega)
  have hBw0 := hBW.trans (hB0.mono (by omega))
  have hs0 := hB0.size
  rw [hsW] at hs0
  clear y0 y1 hBW hsW hB0
  have d0 := z0.cell
  by_cases hbig : 500 < n
  · have hbig' : (500 : Int) < (n : Int) := by omega
    gi_wp2
    gi_loopw [5, 29] (fun t5 t29 wr => ∃ (i : Nat) (s : Int), i ≤ n ∧ t29 = .int .i64 (i : Int) ∧ t5 = .int .i64 s ∧ wr = w0) (fun _ t29 _ => n - (intOf t29).toNat)
    case atStart => exact ⟨0, _, by omega, rfl, rfl, rfl⟩
    case round =>
      obtain ⟨i, s, hi, rfl, rfl, rfl⟩ := hrel
      by_cases hlt : i < n
      · have hif : i < kss.length := by rw [hlen.out]; exact hlt
        obtain ⟨b1, o1, rfl, hb1, hc1⟩ := (h.below hBw0).at_ (by omega)
        obtain ⟨X1, n1, d1, k1, s1⟩ := hc1 i hif
        clear hc1
        gi_wp2
        go_roundw
        case rel => exact ⟨i + 1, _, by omega, by simp, rfl, trivial⟩
        case measure => simp [intOf]; omega
      · obtain rfl : i = n := by omega
        have e1 := z1.cell
        have g1 := z1.frozen
        by_cases hs5 : (5000 : Int) < s
        · gi_wp2
          have qc := (z1.set (.bool true)).cell
          refine ⟨.bool true, ?_, rfl, hBw0.setCell (p := ⟨w.heap.size + 1, 0, none⟩) (by simp) _⟩
          simp [results, Try.f7, go_sem, qc]
        · gi_wp2
          have qc := (z1.set (.bool true)).cell
          refine ⟨.bool true, ?_, rfl, hBw0.setCell (p := ⟨w.heap.size + 1, 0, none⟩) (by simp) _⟩
          simp [results, Try.f7, go_sem, qc]
  · have hbig' : ¬ (500 : Int) < (n : Int) := by omega
    have hel : ∀ i (hi : i < kss.length), kss[i].length ≤ 140737488351232 := fun i hi => by
      obtain ⟨b1, o1, _, _, hc1⟩ := h.at_ (by have := hlen.out; omega)
      obtain ⟨X1, n1, d1, _, s1⟩ := hc1 i hi
      have := s1.reach
      have := s1.len
      omega
    gi_wp2
    gi_loopw [5, 29] (fun t5 t29 wr => ∃ i : Nat, i ≤ n ∧ t29 = .int .i64 (i : Int) ∧ t5 = .int .i64 ((l + sumL (kss.take i) : Nat) : Int) ∧ sumL (kss.take i) ≤ i * 140737488351232 ∧ wr = w0) (fun _ t29 _ => n - (intOf t29).toNat)
    case atStart => exact ⟨0, by omega, rfl, by simp [sumL], by simp [sumL], rfl⟩
    case round =>
      obtain ⟨i, hi, rfl, rfl, hsum, rfl⟩ := hrel
      by_cases hlt : i < n
      · have hif : i < kss.length := by rw [hlen.out]; exact hlt
        obtain ⟨b1, o1, rfl, hb1, hc1⟩ := (h.below hBw0).at_ (by omega)
        obtain ⟨X1, n1, d1, k1, s1⟩ := hc1 i hif
        have hst := sumL_take kss i hif
        have hl1 := s1.len
        have hl2 := hel i hif
        have hn1 := s1.reach
        clear hc1
        generalize sumL (kss.take i) = S0 at *
        have hS0 : S0 ≤ 70368744177664000 := by omega
        have hs2 := hide hst
        have hl3 := hide hl1
        clear hst hl1
        gi_wp2
        go_roundw
        case rel => exact ⟨i + 1, by omega, by simp, by rw [hs2.out, hl3.out]; simp; omega, by rw [hs2.out]; omega, trivial⟩
        case measure => simp [intOf]; omega
      · obtain rfl : i = n := by omega
        rw [List.take_of_length_le (by rw [hlen.out]; exact Nat.le_refl _)] at *
        have e1 := z1.cell
        have g1 := z1.frozen
        generalize hS : sumL kss = S0 at *
        by_cases hs5 : 5000 < l + S0
        · have hs5' : (5000 : Int) < ((l + S0 : Nat) : Int) := by omega
          generalize l + S0 = S1 at *
          gi_wp2
          have qc := (z1.set (.bool true)).cell
          refine ⟨.bool true, ?_, rfl, hBw0.setCell (p := ⟨w.heap.size + 1, 0, none⟩) (by simp) _⟩
          simp [results, Try.f7, go_sem, qc]
        · have hs5' : ¬ (5000 : Int) < ((l + S0 : Nat) : Int) := by omega
          have hf5 : ∀ f ∈ kss, f.length ≤ 5000 := fun f hf => by have := sumL_mem kss f hf; omega
          have hl5 : l ≤ 5000 := by omega
          generalize l + S0 = S1 at *
          gi_wp2_with fail
          have hfsz : (fieldsB kss).length ≤ 10 + 500 * 1048586 := by
            have := encF_bound kss (fun f hf => by have := hf5 f hf; omega)
            have hu := uvar_len10 kss.length (by rw [hlen.out]; omega)
            have e : fieldsB kss = uvar kss.length ++ encF kss := rfl
            rw [e, List.length_append]
            rw [hlen.out] at *
            omega
          refine (callsIn_wide.2 (fields_any kss A i c wr ((h.below hBw0).more hBw0.size) (by omega) (fun f hf => by have := hf5 f hf; omega))).mono ?_
          rintro e w3 ⟨v3, rfl, hm3, hB3⟩
          obtain ⟨A3, L3, c3, rfl, hL3, hb3⟩ := Mine.bsL hm3 (by omega)
          have H3 := hide hL3
          clear hL3 hm3
          have hBw3 := hBw0.trans (hB3.mono hBw0.size)
          have z03 : Boxed w3 w.heap.size 41 (.slice A i c) := Blk.below z0 hB3 (by omega)
          have z13 : Boxed w3 (w.heap.size + 1) 4 (.bool false) := Blk.below z1 hB3 (by omega)
          have hs3 := hB3.size
          clear z0 z1 hBw0 hB3 e1 g1 d0
          have d0 := z03.cell
          gi_wp2_with fail
          refine (callsIn_wide.2 (reffields_any kss A i c w3 ((h.below hBw3).more hBw3.size) (by omega) (fun f hf => by have := hf5 f hf; omega))).mono ?_
          rintro e w4 ⟨v4, rfl, hm4, hB4⟩
          obtain ⟨A4, L4, c4, rfl, hL4, hb4⟩ := Mine.bsL hm4 (by omega)
          have hBw4 := hBw3.trans (hB4.mono hBw3.size)
          have z04 : Boxed w4 w.heap.size 41 (.slice A i c) := Blk.below z03 hB4 (by omega)
          have z14 : Boxed w4 (w.heap.size + 1) 4 (.bool false) := Blk.below z13 hB4 (by omega)
          have hs4 := hB4.size
          have hb34 := (hb3.below hB4).more hs4
          have t3 := strAt hb34
          have t4 := strAt hb4
          clear z03 z13 hBw3 hB4 hL4 hm4 d0 hb3 hb4
          have d0 := z04.cell
          obtain ⟨v5, w5, A6, L6, c6, w6, r5, r6, hb6, hB6⟩ := append_two hb34 ((h1.below hBw4).more hBw4.size) (Nat.le_refl _) (by rw [H3.out]; omega)
          gi_wp2_with (first
            | (gi_at_builtin; refine wpListIn_append_run rfl _ _ 24 rfl _ _ _ rfl rfl r5 ?_)
            | (gi_at_builtin; refine wpListIn_append_run rfl _ _ 24 rfl _ _ _ rfl rfl r6 ?_))
          refine (callsIn_wide.2 (readl_any _ A6 L6 c6 w6.heap.size w6 hb6 (Nat.le_refl _))).mono ?_
          rintro e w7 ⟨ht, hB7⟩
          rw [readL_fields kss ks (by rw [hlen.out]; omega) (fun f hf => by have := hf5 f hf; omega), ← H3.out] at ht
          obtain ⟨v7, rfl, hm7⟩ := ht
          obtain ⟨A7, L7, c7, rfl, hL7, hb7⟩ := MineL.bss hm7 (by rw [hlen.out]; omega) (fun f hf => by have := hf5 f hf; omega)
          rw [hlen.out] at hL7
          subst hL7
          have hB47 := hB6.trans (hB7.mono hB6.size)
          have hBw7 := hBw4.trans (hB47.mono hBw4.size)
          have z07 : Boxed w7 w.heap.size 41 (.slice A L7 c) := Blk.below z04 hB47 (by omega)
          have z17 : Boxed w7 (w.heap.size + 1) 4 (.bool false) := Blk.below z14 hB47 (by omega)
          have hs7 := hB47.size
          clear z04 z14 hBw4 hB47 hB7 hB6 hm7 hb6 r5 r6 hb34 t3 t4 d0
          have d0 := z07.cell
          have hcall := hide ((callsIn_wide (n := 8)).2 (same_any kss A7 A L7 c7 c w7.heap.size w7 hb7 ((h.below hBw7).more hBw7.size) (Nat.le_refl _) (by omega)))
          gi_wp2_with fail
          refine (hcall.out).mono ?_
          rintro e w8 ⟨rfl, hB8⟩
          have hBw8 := hBw7.trans (hB8.mono hBw7.size)
          have z08 : Boxed w8 w.heap.size 41 (.slice A L7 c) := Blk.below z07 hB8 (by omega)
          have z18 : Boxed w8 (w.heap.size + 1) 4 (.bool false) := Blk.below z17 hB8 (by omega)
          have hs8 := hB8.size
          clear z07 z17 hBw7 hB8 hb7 hcall d0
          have d0 := z08.cell
          gi_wp2
          gi_loopw [14, 90] (fun t14 t90 wq => ∃ j : Nat, j ≤ L7 ∧ t90 = .int .i64 (j : Int) ∧ Mine 5 wq w8.heap.size t14 (encF (kss.take j)) ∧ Below w8.heap.size w8 wq) (fun _ t90 _ => L7 - (intOf t90).toNat)
          case atStart => exact ⟨0, by omega, rfl, by simpa [encF] using Mine.nil 5 w8 w8.heap.size, Below.refl _ _⟩
          case round =>
            obtain ⟨j, hj, rfl, hmj, hBr⟩ := hrel
            have hsr := hBr.size
            have hBwr := hBw8.trans (hBr.mono hBw8.size)
            by_cases hjl : j < L7
            · have hif : j < kss.length := by rw [hlen.out]; exact hjl
              obtain ⟨b1, o1, rfl, hb1, hc1⟩ := (h.below hBwr).at_ (by omega)
              obtain ⟨X1, n1, d1, k1, s1⟩ := hc1 j hif
              have hfl := hf5 kss[j] (List.getElem_mem hif)
              have hb := encF_bound (kss.take j) (fun f hf => by have := hf5 f (List.mem_of_mem_take hf); omega)
              rw [List.length_take, hlen.out] at hb
              have hsn := encF_snoc kss j hif
              have hl1 := s1.len
              have hu1 := uvar_len10 kss[j].length (by omega)
              have g1 := field_any kss[j] X1 n1 d1 w.heap.size wr s1 hBwr.size
              have e1 : fieldE n1 = 0 := by unfold fieldE; rw [if_neg (by omega)]
              have e2 : fieldB kss[j] = uvar kss[j].length ++ kss[j] := by unfold fieldB; rw [if_neg (by omega)]
              rw [e1, e2] at g1
              have hcall := hide ((callsIn_wide (n := 8)).2 g1)
              clear hc1 g1 e1 e2
              gi_wp2_with fail
              refine (hcall.out).mono ?_
              rintro e w2 ⟨v2, rfl, hm2, hB2⟩
              have hs2 := hB2.size
              obtain ⟨A2, L2, c2, rfl, hL2, hb2⟩ := Mine.bsL hm2 (by rw [List.length_append]; omega)
              rw [List.length_append] at hL2
              obtain ⟨v3, w3', hrun, hm3, hg3, _⟩ := append_mine (P := Try.prog) 24 Try.underlying24 info5 (hmj.below hB2 (Nat.le_refl _)) (by omega) hb2 (by omega)
              have hB3 : Below w8.heap.size w8 w3' := (hBr.trans (hB2.mono hsr)).trans ((hmj.below hB2 (Nat.le_refl _)).grown hg3 (Nat.le_refl _) (by omega))
              clear hL2
              gi_wp2_with (gi_at_builtin; refine wpListIn_append_run rfl _ _ 24 rfl _ _ _ rfl rfl hrun ?_)
              go_roundw
              case rel => exact ⟨j + 1, by omega, by simp, by rw [hsn]; exact hm3, hB3⟩
              case measure => simp [intOf]; omega
            · obtain rfl : L7 = j := by omega
              rw [List.take_of_length_le (by rw [hlen.out]; exact Nat.le_refl _)] at hmj
              have hbnd := encF_bound kss (fun f hf => by have := hf5 f hf; omega)
              rw [hlen.out] at hbnd
              obtain ⟨A9, L9, c9, rfl, hL9, hb9⟩ := Mine.bsL hmj (by omega)
              obtain ⟨N, hN⟩ : ∃ N, (encF kss).length = N := ⟨_, rfl⟩
              rw [hN] at hL9 hbnd
              subst hL9
              have z09 : Boxed wr w.heap.size 41 (.slice A L7 c) := Blk.below z08 hBr (by omega)
              have z19 : Boxed wr (w.heap.size + 1) 4 (.bool false) := Blk.below z18 hBr (by omega)
              have hcall := hide ((callsIn_wide (n := 8)).2 (new_any (encF kss) A9 L9 c9 wr.heap.size wr hb9 (Nat.le_refl _)))
              have HN := hide hN
              clear hN
              gi_wp2_with fail
              refine (hcall.out).mono ?_
              rintro e w10 ⟨R, A10, c10, rfl, hR, hr10, hb10, hB10⟩
              rw [HN.out] at hr10 hb10
              have hBw10 := hBwr.trans (hB10.mono hBwr.size)
              have z010 : Boxed w10 w.heap.size 41 (.slice A L7 c) := Blk.below z09 hB10 (by omega)
              have z110 : Boxed w10 (w.heap.size + 1) 4 (.bool false) := Blk.below z19 hB10 (by omega)
              have hs10 := hB10.size
              have hRl := hr10.lt
              clear z09 z19 z08 z18 hB10 hcall hmj hb9 d0 hBwr
              gi_wp2_with fail
              refine (callsIn_wide.2 (each_any R _)).mono ?_
              rintro e w11 ⟨rfl, rfl⟩
              have x0 := Blk.alloc (Blk.alloc z010 (.cells #[.int .i64 0] 3)) (.cells #[.pointer (some ⟨R, 0, none⟩)] 47)
              have x1 := Blk.alloc (Blk.alloc z110 (.cells #[.int .i64 0] 3)) (.cells #[.pointer (some ⟨R, 0, none⟩)] 47)
              have x2 := (Blk.new w10 3 #[.int .i64 0]).alloc (.cells #[.pointer (some ⟨R, 0, none⟩)] 47)
              have x3 := Blk.new (w10.alloc (.cells #[.int .i64 0] 3)) 47 #[.pointer (some ⟨R, 0, none⟩)]
              have x4 := Blk.alloc (Blk.alloc hr10 (.cells #[.int .i64 0] 3)) (.cells #[.pointer (some ⟨R, 0, none⟩)] 47)
              have x5 := (hb10.alloc (by omega) (.cells #[.int .i64 0] 3)).alloc (by simp; omega) (.cells #[.pointer (some ⟨R, 0, none⟩)] 47)
              rw [World.size_alloc] at x3
              have hBx := (hBw10.alloc hBw10.size (.cells #[.int .i64 0] 3)).alloc (by have := hBw10.size; simp; omega) (.cells #[.pointer (some ⟨R, 0, none⟩)] 47)
              have hsx : ((w10.alloc (.cells #[.int .i64 0] 3)).alloc (.cells #[.pointer (some ⟨R, 0, none⟩)] 47)).heap.size = w10.heap.size + 1 + 1 := by simp
              generalize ((w10.alloc (.cells #[.int .i64 0] 3)).alloc (.cells #[.pointer (some ⟨R, 0, none⟩)] 47)) = W0 at *
              gi_wp2_with fail
              refine wpIn_each (n := 9) (by omega) kss (fun f hf => by have := hf5 f hf; omega) R (w10.heap.size + 1) L9 c10 A10 rfl (by omega) (by omega) HN.out (by omega) (by rw [hlen.out]; omega) x3 x4 x5 rfl
                (fun j W => ((Boxed W w10.heap.size 3 (.int .i64 (j : Int)) ∧ Boxed W w.heap.size 41 (.slice A L7 c)) ∧ Boxed W (w.heap.size + 1) 4 (.bool false)) ∧ Below w.heap.size w W)
                (fun j W W' row ⟨⟨⟨a, b⟩, d⟩, e⟩ hg hrow => ⟨⟨⟨boxed_keep a hg hrow (by omega), boxed_keep b hg hrow (by omega)⟩, boxed_keep d hg hrow (by omega)⟩, e.trans ((Below.refl w.heap.size W).grown hg e.size (fun r er => by
                  rcases hrow r er with rfl | ⟨h9, _⟩
                  · omega
                  · omega))⟩)
                ⟨⟨⟨x2, x0⟩, x1⟩, hBx⟩ ?a1 ?assign ?body ?done
              case assign =>
                intro l' i v W K hK
                gi_wp2
                exact hK
              case body =>
                rintro l' j W A' L' c' hjl ⟨⟨⟨q2, q0⟩, q1⟩, hBq⟩ hbs
                have hj7 : j < L7 := by rw [← hlen.out]; exact hjl
                obtain ⟨b1, o1, rfl, hb1, hc1⟩ := (h.below hBq).at_ (by omega)
                obtain ⟨X1, n1, d1, k1, s1⟩ := hc1 j hjl
                have t1 : ∀ m, StrAt X1 n1 d1 kss[j] (W.drewN m) := fun m => strAt (s1.drewN m)
                have t2 : ∀ m, StrAt A' L' c' kss[j] (W.drewN m) := fun m => strAt (hbs.drewN m)
                have k2 := q2.cell
                have k0 := q0.cell
                have g2 := q2.frozen
                clear hc1 s1 hbs
                have hlast : ∀ (m : Nat) (act : Act), eachPost W0.heap.size R (w10.heap.size + 1) (fun W => ((Boxed W w10.heap.size 3 (.int .i64 ((j : Int) + 1)) ∧ Boxed W w.heap.size 41 (.slice (some ⟨b1, o1, none⟩) L7 c)) ∧ Boxed W (w.heap.size + 1) 4 (.bool false)) ∧ Below w.heap.size w W) W .normal act ((W.drewN m).setCell ⟨w10.heap.size, 0, none⟩ (.int .i64 ((j : Int) + 1))) := fun m act =>
                  ⟨((show KeepsOthers W (W.drewN m) from ⟨Nat.le_refl _, fun _ _ h _ => h⟩).trans (KeepsOthers.setCell (W.drewN m) ⟨w10.heap.size, 0, none⟩ (.int .i64 ((j : Int) + 1)))).from _, (Below.drewN' (Below.refl _ W) m).setCell (p := ⟨w10.heap.size, 0, none⟩) (by simp; omega) _, Below.heap_setCell _ _ _ _ (by simp),
                    ⟨⟨(Blk.drewN q2 m).put 0 (.int .i64 ((j : Int) + 1)), Blk.far (Blk.drewN q0 m) (by simp; omega) _⟩, Blk.far (Blk.drewN q1 m) (by simp; omega) _⟩, (Below.drewN' hBq m).setCell (p := ⟨w10.heap.size, 0, none⟩) (by simp; omega) _⟩
                have HL := hide hlast
                clear hlast
                have hHS : W.drew.cell? ⟨w10.heap.size, 0, none⟩ = some (.int .i64 (j : Int)) ∧ W.drew.cell? ⟨w.heap.size, 0, none⟩ = some (.slice (some ⟨b1, o1, none⟩) L7 c) ∧ W.drew.cell? ⟨b1, o1 + j, none⟩ = some (.slice X1 n1 d1) ∧ StrAt A' L' c' kss[j] W.drew ∧ StrAt X1 n1 d1 kss[j] W.drew := ⟨k2, k0, k1, t2 1, t1 1⟩
                have hj7' : ¬ (L7 : Int) ≤ (j : Int) := by omega
                have hj7b : decide (L7 ≤ j) = false := decide_eq_false (by omega)
                have hj7i : (j : Int) < (L7 : Int) := by omega
                have hj0 : (0 : Int) ≤ (j : Int) := by omega
                gi_wp2
                refine region_round_to (S := fun W' => W'.cell? ⟨w10.heap.size, 0, none⟩ = some (.int .i64 (j : Int)) ∧ W'.cell? ⟨w.heap.size, 0, none⟩ = some (.slice (some ⟨b1, o1, none⟩) L7 c) ∧ W'.cell? ⟨b1, o1 + j, none⟩ = some (.slice X1 n1 d1) ∧ StrAt A' L' c' kss[j] W' ∧ StrAt X1 n1 d1 kss[j] W') (by kernel_rfl) (by kernel_rfl) hHS (fun hHeld => ?_)
                refine wpAnyH_take (i := 0) (v := ?_) rfl (by kernel_rfl) (by kernel_rfl) (by kernel_rfl) (fun _ _ _ h => by cases h.1) (Or.inl ⟨by kernel_rfl, ?_⟩) (by assumption) ?_
                rotate_left
                · (intro w hSw; (try dsimp only at hSw); go_simp; try with_reducible rfl)
                (try simp only [Act.put, List.getElem_toArray, List.getElem_cons_succ, List.getElem_cons_zero, List.setIfInBounds_toArray, List.set_cons_zero, List.set_cons_succ])
                refine wpAnyH_take (i := 1) (v := ?_) rfl (by kernel_rfl) (by kernel_rfl) (by kernel_rfl) (fun _ _ _ h => by cases h.1) (Or.inl ⟨by kernel_rfl, ?_⟩) (by assumption) ?_
                rotate_left
                · (intro w hSw; (try dsimp only at hSw); go_simp; try with_reducible rfl)
                (try simp only [Act.put, List.getElem_toArray, List.getElem_cons_succ, List.getElem_cons_zero, List.setIfInBounds_toArray, List.set_cons_zero, List.set_cons_succ])
                refine wpAnyH_take (i := 2) (v := ?_) rfl (by kernel_rfl) (by kernel_rfl) (by kernel_rfl) (fun _ _ _ h => by cases h.1) (Or.inl ⟨by kernel_rfl, ?_⟩) (by assumption) ?_
                rotate_left
                · (intro w hSw; (try dsimp only at hSw); go_simp; try with_reducible rfl)
                (try simp only [Act.put, List.getElem_toArray, List.getElem_cons_succ, List.getElem_cons_zero, List.setIfInBounds_toArray, List.set_cons_zero, List.set_cons_succ])
                refine wpAnyH_take (i := 3) (v := ?_) rfl (by kernel_rfl) (by kernel_rfl) (by kernel_rfl) (fun _ _ _ h => by cases h.1) (Or.inl ⟨by kernel_rfl, ?_⟩) (by assumption) ?_
                rotate_left
                · (intro w hSw; (try dsimp only at hSw); go_simp; try with_reducible rfl)
                (try simp only [Act.put, List.getElem_toArray, List.getElem_cons_succ, List.getElem_cons_zero, List.setIfInBounds_toArray, List.set_cons_zero, List.set_cons_succ])
                refine wpAnyH_take (i := 4) (v := ?_) rfl (by kernel_rfl) (by kernel_rfl) (by kernel_rfl) (fun _ _ _ h => by cases h.1) (Or.inl ⟨by kernel_rfl, ?_⟩) (by assumption) ?_
                rotate_left
                · (intro w hSw; (try dsimp only at hSw); go_simp; try with_reducible rfl)
                (try simp only [Act.put, List.getElem_toArray, List.getElem_cons_succ, List.getElem_cons_zero, List.setIfInBounds_toArray, List.set_cons_zero, List.set_cons_succ])
                refine wpAnyH_take (i := 5) (v := ?_) rfl (by kernel_rfl) (by kernel_rfl) (by kernel_rfl) (fun _ _ _ h => by cases h.1) (Or.inl ⟨by kernel_rfl, ?_⟩) (by assumption) ?_
                rotate_left
                · (intro w hSw; (try dsimp only at hSw); go_simp; try with_reducible rfl)
                (try simp only [Act.put, List.getElem_toArray, List.getElem_cons_succ, List.getElem_cons_zero, List.setIfInBounds_toArray, List.set_cons_zero, List.set_cons_succ])
                refine wpAnyH_take (i := 6) (v := ?_) rfl (by kernel_rfl) (by kernel_rfl) (by kernel_rfl) (fun _ _ _ h => by cases h.1) (Or.inl ⟨by kernel_rfl, ?_⟩) (by assumption) ?_
                rotate_left
                · (intro w hSw; (try dsimp only at hSw); go_simp; try with_reducible rfl)
                (try simp only [Act.put, List.getElem_toArray, List.getElem_cons_succ, List.getElem_cons_zero, List.setIfInBounds_toArray, List.set_cons_zero, List.set_cons_succ])
                refine wpAnyH_take (i := 7) (v := ?_) rfl (by kernel_rfl) (by kernel_rfl) (by kernel_rfl) (fun _ _ _ h => by cases h.1) (Or.inl ⟨by kernel_rfl, ?_⟩) (by assumption) ?_
                rotate_left
                · (intro w hSw; (try dsimp only at hSw); go_simp; try with_reducible rfl)
                (try simp only [Act.put, List.getElem_toArray, List.getElem_cons_succ, List.getElem_cons_zero, List.setIfInBounds_toArray, List.set_cons_zero, List.set_cons_succ])
                refine wpAnyH_take (i := 8) (v := ?_) rfl (by kernel_rfl) (by kernel_rfl) (by kernel_rfl) (fun _ _ _ h => by cases h.1) (Or.inl ⟨by kernel_rfl, ?_⟩) (by assumption) ?_
                rotate_left
                · (intro w hSw; (try dsimp only at hSw); go_simp; try with_reducible rfl)
                (try simp only [Act.put, List.getElem_toArray, List.getElem_cons_succ, List.getElem_cons_zero, List.setIfInBounds_toArray, List.set_cons_zero, List.set_cons_succ])
                refine wpAnyH_take (i := 9) (v := ?_) rfl (by kernel_rfl) (by kernel_rfl) (by kernel_rfl) (fun _ _ _ h => by cases h.1) (Or.inl ⟨by kernel_rfl, ?_⟩) (by assumption) ?_
                rotate_left
                · (intro w hSw; (try dsimp only at hSw); go_simp; try with_reducible rfl)
                (try simp only [Act.put, List.getElem_toArray, List.getElem_cons_succ, List.getElem_cons_zero, List.setIfInBounds_toArray, List.set_cons_zero, List.set_cons_succ])
                refine wpAnyH_take (i := 10) (v := ?_) rfl (by kernel_rfl) (by kernel_rfl) (by kernel_rfl) (fun _ _ _ h => by cases h.1) (Or.inl ⟨by kernel_rfl, ?_⟩) (by assumption) ?_
                rotate_left
                · (intro w hSw; (try dsimp only at hSw); go_simp; try with_reducible rfl)
                (try simp only [Act.put, List.getElem_toArray, List.getElem_cons_succ, List.getElem_cons_zero, List.setIfInBounds_toArray, List.set_cons_zero, List.set_cons_succ])
                refine wpAnyH_take (i := 11) (v := ?_) rfl (by kernel_rfl) (by kernel_rfl) (by kernel_rfl) (fun _ _ _ h => by cases h.1) (Or.inl ⟨by kernel_rfl, ?_⟩) (by assumption) ?_
                rotate_left
                · (intro w hSw; (try dsimp only at hSw); go_simp; try with_reducible rfl)
                (try simp only [Act.put, List.getElem_toArray, List.getElem_cons_succ, List.getElem_cons_zero, List.setIfInBounds_toArray, List.set_cons_zero, List.set_cons_succ])
                refine wpAnyH_take (i := 12) (v := ?_) rfl (by kernel_rfl) (by kernel_rfl) (by kernel_rfl) (fun _ _ _ h => by cases h.1) (Or.inl ⟨by kernel_rfl, ?_⟩) (by assumption) ?_
                rotate_left
                · (intro w hSw; (try dsimp only at hSw); go_simp; try with_reducible rfl)
                (try simp only [Act.put, List.getElem_toArray, List.getElem_cons_succ, List.getElem_cons_zero, List.setIfInBounds_toArray, List.set_cons_zero, List.set_cons_succ])
                refine wpAnyH_take (i := 13) (v := ?_) rfl (by kernel_rfl) (by kernel_rfl) (by kernel_rfl) (fun _ _ _ h => by cases h.1) (Or.inl ⟨by kernel_rfl, ?_⟩) (by assumption) ?_
                rotate_left
                · (intro w hSw; (try dsimp only at hSw); go_simp; try with_reducible rfl)
                (try simp only [Act.put, List.getElem_toArray, List.getElem_cons_succ, List.getElem_cons_zero, List.setIfInBounds_toArray, List.set_cons_zero, List.set_cons_succ])
                refine wpAnyH_take (i := 14) (v := ?_) rfl (by kernel_rfl) (by kernel_rfl) (by kernel_rfl) (fun _ _ _ h => by cases h.1) (Or.inl ⟨by kernel_rfl, ?_⟩) (by assumption) ?_
                rotate_left
                · (intro w hSw; (try dsimp only at hSw); go_simp; try with_reducible rfl)
                (try simp only [Act.put, List.getElem_toArray, List.getElem_cons_succ, List.getElem_cons_zero, List.setIfInBounds_toArray, List.set_cons_zero, List.set_cons_succ])
                refine wpAnyH_take (i := 15) (v := ?_) rfl (by kernel_rfl) (by kernel_rfl) (by kernel_rfl) (fun _ _ _ h => by cases h.1) (Or.inl ⟨by kernel_rfl, ?_⟩) (by assumption) ?_
                rotate_left
                · (intro w hSw; (try dsimp only at hSw); go_simp; try with_reducible rfl)
                (try simp only [Act.put, List.getElem_toArray, List.getElem_cons_succ, List.getElem_cons_zero, List.setIfInBounds_toArray, List.set_cons_zero, List.set_cons_succ])
                refine wpAnyH_take (i := 16) (v := ?_) rfl (by kernel_rfl) (by kernel_rfl) (by kernel_rfl) (fun _ _ _ h => by cases h.1) (Or.inl ⟨by kernel_rfl, ?_⟩) (by assumption) ?_
                rotate_left
                · (intro w hSw; (try dsimp only at hSw); go_simp; try with_reducible rfl)
                (try simp only [Act.put, List.getElem_toArray, List.getElem_cons_succ, List.getElem_cons_zero, List.setIfInBounds_toArray, List.set_cons_zero, List.set_cons_succ])
                refine wpAnyH_take (i := 17) (v := ?_) rfl (by kernel_rfl) (by kernel_rfl) (by kernel_rfl) (fun _ _ _ h => by cases h.1) (Or.inl ⟨by kernel_rfl, ?_⟩) (by assumption) ?_
                rotate_left
                · (intro w hSw; (try dsimp only at hSw); go_simp; try with_reducible rfl)
                (try simp only [Act.put, List.getElem_toArray, List.getElem_cons_succ, List.getElem_cons_zero, List.setIfInBounds_toArray, List.set_cons_zero, List.set_cons_succ])
                refine wpAnyH_take (i := 18) (v := ?_) rfl (by kernel_rfl) (by kernel_rfl) (by kernel_rfl) (fun _ _ _ h => by cases h.1) (Or.inl ⟨by kernel_rfl, ?_⟩) (by assumption) ?_
                rotate_left
                · (intro w hSw; (try dsimp only at hSw); go_simp; try with_reducible rfl)
                (try simp only [Act.put, List.getElem_toArray, List.getElem_cons_succ, List.getElem_cons_zero, List.setIfInBounds_toArray, List.set_cons_zero, List.set_cons_succ])
                refine wpAnyH_done (by kernel_rfl) ?_ _
                refine ⟨rfl, ?_⟩
                have k3 : W.drew.cell? ⟨w10.heap.size, 0, none⟩ = some (.int .i64 (j : Int)) := k2
                have g3 : W.drew.frozen? ⟨w10.heap.size, 0, none⟩ = false := g2
                gi_wp2
                exact HL.out 1 _
              case done =>
                rintro D W hD ⟨⟨⟨q2, q0⟩, q1⟩, hBq⟩ hrq hK
                have k2 : W.cell? ⟨w10.heap.size, 0, none⟩ = some (.int .i64 (L7 : Int)) := by have := q2.cell; rw [hlen.out] at this; exact this
                have k0 := q0.cell
                have hwD : w.heap.size ≤ D := by have := hBx.size; omega
                gi_wp2_with fail
                refine (callsIn_wide.2 (done_any R A10 L9 c10 _ _ W hrq)).mono ?_
                rintro e w13 ⟨he, m, rfl⟩
                rw [show doneOf L9 (L9 : Int) 0 = 0 by simp [doneOf]] at he
                subst he
                have r13 : Rdr (W.drewN m) R A10 L9 c10 (L9 : Int) 0 := hrq
                have p1 : Boxed (W.drewN m) (w.heap.size + 1) 4 (.bool false) := Blk.drewN q1 m
                have k1 := p1.cell
                have g1 := p1.frozen
                have hK1 : (W.drewN m).heap[D]? = some (.deferred (some [])) := hK
                have hBm := Below.drewN' hBq m
                generalize W.drewN m = W5 at *
                gi_wp2_with fail
                refine (callsIn_wide.2 (at_any R A10 L9 c10 _ _ W5 r13)).mono ?_
                rintro e w14 ⟨rfl, rfl⟩
                gi_wp2
                have hK' := (KeepsOthers.setCell W5 ⟨w.heap.size + 1, 0, none⟩ (.bool true)).same D _ hK1 rfl
                refine ⟨by simp, .inl ⟨_, _, rfl, run_takeDeferred hK', ?_⟩⟩
                have qx := p1.set (.bool true)
                have hc5 := cell_kept qx.cell (grownBy_putObj' _ D (.deferred none)) (fun r e => by cases e; exact ⟨_, hK', rfl⟩)
                refine ⟨.bool true, ?_, rfl, (hBm.setCell (p := ⟨w.heap.size + 1, 0, none⟩) (by simp) _).trans (belowK_b (w := w) (Nat.le_refl _) _ D _ _ (by omega) hK' rfl rfl)⟩
                simp [results, Try.f7, go_sem, hc5]

end Go.Proofs.Ytdlbhppoknbnlaa
