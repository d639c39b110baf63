/-
  The walk of the law CrcFrames: it answers true. Condition: both slices read as bytes.
-/
import Derived.Test.YtdnhpmdmkdgmpaaRefEach
import Derived.Test.YtdnhpmdmkdgmpaaOnceW
namespace Go.Proofs.Ytdnhpmdmkdgmpaa
open Go.RowKit Go.Shelf

attribute [local go_sem] Oper.semAt_some

/-- a slice's bytes as a string, at a world -/
abbrev StrAt (A : Option Addr) (L c : Nat) (ks : List UInt8) (W : World) : Prop := (convert 22 9 (.slice A L c)).run Try.prog W = .ok (.string ⟨ks.toArray⟩) W
theorem strAt {w : World} {B : Nat} {A : Option Addr} {n c : Nat} {ks : List UInt8} (h : Bs w B A n c ks) : StrAt A n c ks w := run_str (P := Try.prog) 22 5 9 Try.underlying22 Try.underlying5 Try.underlying9 h

/-- what Unframe answers, of one form -/
def ansT (r : Except Int (List UInt8 × Nat)) : List UInt8 × Int × Int := match r with | .ok (p, k) => (p, (k : Int), 0) | .error c => ([], 0, c)
theorem ansX_uni {w w' : World} {r : Except Int (List UInt8 × Nat)} {e : Ending} (h : AnsX w r e w') (hr : ∀ p k, r = .ok (p, k) → p.length ≤ 16777216) :
    ∃ A L c, e = .returned (.tuple #[.slice A L c, .int .i64 (ansT r).2.1, .int .i64 (ansT r).2.2]) ∧ Bs w' w'.heap.size A L c (ansT r).1 ∧ ∀ a, A = some a → w.heap.size ≤ a.block := by
  cases r with
  | error c => exact ⟨none, 0, 0, h, Bs.nil _ _ _ _, fun a e => by cases e⟩
  | ok pk =>
    obtain ⟨p, k⟩ := pk
    obtain ⟨v, rfl, hm⟩ := h
    have hl := hr p k rfl
    obtain ⟨A, c, rfl, hb, _, hA⟩ := hm.bs (by omega)
    exact ⟨A, _, c, rfl, hb, fun a e => by obtain ⟨g, rfl, h1, _⟩ := hA a e; exact h1⟩

theorem mine_bsA {e : TypeId} {w : World} {base : Nat} {v : Value} {ks : List UInt8} (h : Mine e w base v ks) (hr : ks.length ≤ 140737488351232) : ∃ A L c, v = .slice A L c ∧ L = ks.length ∧ Bs w w.heap.size A L c ks ∧ ∀ a, A = some a → base ≤ a.block := by
  obtain ⟨A, c, e1, e2, _, e4⟩ := h.bs hr
  exact ⟨A, _, c, e1, rfl, e2, fun a ha => by obtain ⟨g, rfl, h1, _⟩ := e4 a ha; exact h1⟩

theorem append_two {w : World} {B : Nat} {A1 A2 : Option Addr} {n1 c1 n2 c2 : Nat} {k1 k2 : List UInt8} (h1 : Bs w B A1 n1 c1 k1) (h2 : Bs w B A2 n2 c2 k2) (hB : B ≤ w.heap.size) (hl : n1 + n2 ≤ 1000000) :
    ∃ v w1 v2 w2, (Builtin.append_ #[22, 22] 22 #[.slice none 0 0, .slice A1 n1 c1]).run Try.prog w = .ok v w1 ∧ (Builtin.append_ #[22, 22] 22 #[v, .slice A2 n2 c2]).run Try.prog w1 = .ok v2 w2 ∧ Mine 5 w2 w.heap.size v2 (k1 ++ k2) ∧ Below w.heap.size w w2 := by
  have l1 := h1.len
  have l2 := h2.len
  obtain ⟨v, w1, hr1, hm1, hg1, _⟩ := append_mine (P := Try.prog) 22 Try.underlying22 info5 (Mine.nil 5 w w.heap.size) (Nat.le_refl _) h1 (by simp; omega)
  have hB1 : Below w.heap.size w w1 := (Mine.nil 5 w w.heap.size).grown hg1 (Nat.le_refl _) (Nat.le_refl _)
  rw [List.nil_append] at hm1
  obtain ⟨v2, w2, hr2, hm2, hg2, _⟩ := append_mine (P := Try.prog) 22 Try.underlying22 info5 hm1 hB1.size (h2.below (hB1.mono hB)) (by omega)
  exact ⟨v, w1, v2, w2, hr1, hr2, hm2, hB1.trans (hm1.grown hg2 (Nat.le_refl _) hB1.size)⟩

theorem run_eql_func (f : Fn) (a c : Array Value) (w : World) : (binOp .eql 53 (.func f a c) .nilFunc).run Try.prog w = .ok (.bool false) w := by
  have h : ∀ d : Nat, (Op.equalIn (d + 1) 53 (.func f a c) .nilFunc).run Try.prog w = .ok false w := fun d => by
    simp [Op.equalIn, run_underlying Try.underlying53]
  simp only [binOp]
  simp [Op.equal, Op.maxDepth, h 9999]

theorem bs_putObj {w : World} {B l : Nat} {A : Option Addr} {n c : Nat} {ks : List UInt8} {o : Obj} (h : Bs w B A n c ks) (hl : w.heap[l]? = some o) (ho : o.isCells = false) (o' : Obj) : Bs (w.putObj l o') B A n c ks :=
  ⟨Sl.len h, Sl.cap h, Sl.reach h, fun hne => by
    obtain ⟨b, off, e, hb, hc⟩ := Sl.row h hne
    refine ⟨b, off, e, hb, fun j u hu => ?_⟩
    have h1 := hc j u hu
    refine (World.cell?_of_block (World.putObj_heap_other (fun eb => ?_))).trans h1
    obtain ⟨o2, h2, h3⟩ := cells_of_cell h1
    have eb' : b = l := eb
    subst eb'
    rw [show w.heap[b]? = _ from hl] at h2
    cases h2
    rw [ho] at h3
    cases h3⟩
theorem grown_put {w W : World} {G l : Nat} (h : w.grownBy W (some G)) (hl : w.heap.size ≤ l) (o' : Obj) : w.grownBy (W.putObj l o') (some G) :=
  ⟨h.os, h.tape, h.output, by simpa using h.size, fun k hk hn => (World.putObj_heap_other (by omega)).trans (h.block k hk hn)⟩

set_option maxRecDepth 100000 in
set_option maxHeartbeats 8000000 in
theorem cframes_any (ks : List UInt8) (A : Option Addr) (n c : Nat) (ls : List UInt8) (A2 : Option Addr) (n2 c2 : Nat) (w : World) (hk : Bs w w.heap.size A n c ks) (hl : Bs w w.heap.size A2 n2 c2 ls) :
    Calls Try.prog 6 #[.slice A n c, .slice A2 n2 c2] w fun e w' => e = .returned (.bool true) ∧ Below w.heap.size w w' := by
  have hn := hk.reach
  have hn2 := hl.reach
  have hlen := hide hk.len
  have hlen2 := hide hl.len
  refine (callsIn_wide (n := 9)).1 ?_
  refine callsIn_of_wp_marks Try.func6 rfl trivial ?_ rfl
  simp only [Try.ntmps6, List.size_toArray, List.length_cons, List.length_nil, Nat.reduceAdd, Nat.reduceSub, Array.replicate_succ, Array.replicate_zero, List.push_toArray, List.append_toArray, List.nil_append, List.cons_append]
  have hef := run_eql_func
  have f7 : Fence.wide.fn 7 := trivial
  have f8 : Fence.wide.fn 8 := trivial
  have f11 : Fence.wide.fn 11 := trivial
  have f20 : Fence.wide.fn 20 := trivial
  have f12 : Fence.wide.fn 12 := trivial
  have f21 : Fence.wide.fn 21 := trivial
  have f22 : Fence.wide.fn 22 := trivial
  have f14 : Fence.wide.fn 14 := trivial
  gi_wp2_with fail
  have z0 := Blk.new w 4 #[.bool false]
  have hB0 := (Below.refl _ w).alloc (Nat.le_refl _) (.cells #[.bool false] 4)
  have hs0 : (w.alloc (.cells #[.bool false] 4)).heap.size = w.heap.size + 1 := by simp
  generalize w.alloc (.cells #[.bool false] 4) = w0 at *
  obtain ⟨S0, hS0⟩ : ∃ S0, w.heap.size = S0 := ⟨_, rfl⟩
  rw [hS0] at z0 hs0 hk hl hB0 ⊢
  have HS0 := hide hS0
  clear hS0
  refine (callsIn_wide.2 (awake_any w0)).mono ?_
  rintro e w1 ⟨rfl, hB1⟩
  have z1 : Boxed w1 S0 4 (.bool false) := Blk.below z0 hB1 (by omega)
  have hB01 := hB0.trans (hB1.mono (by omega))
  have hs1 := hB1.size
  by_cases hlong : 5000 < n + n2
  · have hlong' : (5000 : Int) < (n : Int) + (n2 : Int) := by omega
    have c1 := z1.cell
    have g1 := z1.frozen
    gi_wp2
    have qc := (z1.set (.bool true)).cell
    refine ⟨.bool true, ?_, rfl, by rw [HS0.out]; exact hB01.setCell (p := ⟨S0, 0, none⟩) (by simp) _⟩
    simp [results, Try.f6, go_sem, qc]
  have hlong' : ¬ (5000 : Int) < (n : Int) + (n2 : Int) := by omega
  gi_wp2_with fail
  refine (callsIn_wide.2 (new_any w1)).mono ?_
  rintro e w2 ⟨rfl, rfl⟩
  have ht2 : Tbl (w1.alloc (.cells (tbCells 1) 44)) w1.heap.size false := tb_of _ _ 1 (Blk.new w1 44 _)
  have z2 : Boxed (w1.alloc (.cells (tbCells 1) 44)) S0 4 (.bool false) := Blk.alloc z1 _
  have hB2 := hB01.alloc (by omega) (.cells (tbCells 1) 44)
  obtain ⟨G, hG⟩ : ∃ G, w1.heap.size = G := ⟨_, rfl⟩
  have hz : (w1.alloc (.cells (tbCells 1) 44)).heap.size = G + 1 := by simp [hG]
  generalize w1.alloc (.cells (tbCells 1) 44) = w2 at *
  rw [hG] at ht2 hs1 ⊢
  have hSG : S0 < G := by omega
  have hk2 := hk.below hB2
  have hl2 := hl.below hB2
  have hAk : 0 < n → ∀ a, A = some a → a.block ≠ G := bs_off hk2 (by omega)
  have hAl : 0 < n2 → ∀ a, A2 = some a → a.block ≠ G := bs_off hl2 (by omega)
  clear z0 z1 hB0 hB1 hB01 hG hk hl
  -- Frame, twice
  gi_wp2_with fail
  refine (callsIn_wide.2 (frame_any G false ks A n c w2 ht2 (hk2.more (by omega)) (by omega) hAk)).mono ?_
  rintro e w3 ⟨v3, rfl, hm3, ht3, hg3⟩
  have hfl := frameB_len ks
  have hul := uvar_len10 ks.length (by rw [hlen.out]; omega)
  rw [hlen.out] at hfl hul
  have hs3 := hg3.size
  have hk3 := bs_grown hk2 (by omega) hAk hg3
  obtain ⟨A3, L3, c3, rfl, hL3, hb3, hA3⟩ := mine_bsA hm3 (by omega)
  have hL3b : L3 ≤ 5014 := by omega
  have hL30 : 0 < L3 := by omega
  have HL3 := hide hL3
  clear hfl hul hL3
  gi_wp2_with fail
  refine (callsIn_wide.2 (refframe_any ks A n c w3 (hk3.more (by omega)) (by omega))).mono ?_
  rintro e w4 ⟨v4, rfl, hm4, hB4⟩
  obtain ⟨A4, L4, c4, rfl, hL4, hb4, hA4⟩ := mine_bsA hm4 (by rw [← HL3.out]; omega)
  have hg4 := grown_trans hg3 (grown_of_below hB4 _)
  have ht4 := ht3.below hB4 ht3.lt
  have hb34 := (hb3.below hB4).more hB4.size
  have hs4 := hg4.size
  have st3 := strAt hb34
  have st4 := strAt hb4
  obtain ⟨F, hF⟩ : ∃ F, frameB ks = F := ⟨_, rfl⟩
  have hun := fun more => unfr_frame ks more (by rw [hlen.out]; omega)
  rw [hF] at hm3 hm4 hb3 hb4 hb34 st3 st4 HL3
  have hA3G : 0 < L3 → ∀ a, A3 = some a → a.block ≠ G := fun _ a ha => by have := hA3 a ha; omega
  clear hL4 hm3 hm4 hb3 hb4 hA4 hB4 ht3 hk3 hg3
  have hl4 := bs_grown hl2 (by omega) hAl hg4
  obtain ⟨v5, w5, v6, w6, hrun5, hrun6, hm6, hB6⟩ := append_two hb34 (hl4.more (by omega)) (Nat.le_refl _) (by omega)
  have ht6 := ht4.below hB6 ht4.lt
  have hg6 := grown_trans hg4 (grown_of_below hB6 _)
  have hs6 := hg6.size
  obtain ⟨A6, L6, c6, rfl, hL6, hb6, hA6⟩ := mine_bsA hm6 (by rw [List.length_append, ← HL3.out, hlen2.out]; omega)
  have H5 := hide hrun5
  have H6 := hide hrun6
  have hkk : StrAt A n c ks w4 := strAt (bs_grown hk2 (by omega) hAk hg4)
  clear hrun5 hrun6 hL6 hm6
  gi_wp2_with (first
      | (gi_at_builtin; refine wpListIn_append_run rfl _ _ 22 rfl _ _ _ rfl rfl H5.out ?_)
      | (gi_at_builtin; refine wpListIn_append_run rfl _ _ 22 rfl _ _ _ rfl rfl H6.out ?_))
  refine (callsIn_wide.2 (unframe_any G _ (F ++ ls) A6 L6 c6 w6 ht6 hb6 (fun _ a ha => by have := hA6 a ha; omega))).mono ?_
  rintro e w7 ⟨hx7, ⟨b7, ht7⟩, hg7⟩
  rw [hF] at hun
  rw [hun ls] at hx7
  obtain ⟨v7, rfl, hm7⟩ := hx7
  rw [← HL3.out]
  obtain ⟨A7, L7, c7, rfl, hL7, hb7, hA7⟩ := mine_bsA hm7 (by rw [hlen.out]; omega)
  have hgw7 := grown_trans hg6 hg7
  have hs7 := hgw7.size
  have hs46 := hB6.size
  have hs67 := hg7.size
  have hb37 := bs_grown hb34 (Nat.le_refl _) hA3G (grown_trans (grown_of_below (r := some G) hB6) hg7)
  have hk7 := bs_grown hk2 (by omega) hAk hgw7
  have hl7 := bs_grown hl2 (by omega) hAl hgw7
  have st7 := strAt hb7
  have st7k := strAt hk7
  clear hL7 hm7 hA7 hb6 hA6 st3 st4 hkk hb34 hg7 hg6 hB6 ht6 ht4 hg4
  gi_wp2_with fail
  refine (callsIn_wide.2 (unframe_any G _ ls A2 n2 c2 w7 ht7 (hl7.more (by omega)) hAl)).mono ?_
  rintro e w8 ⟨hx8, ⟨b8, ht8⟩, hg8⟩
  have hpb : ∀ p k, unfr ls = .ok (p, k) → p.length ≤ 16777216 := fun p k h => (unfr_once h).2.2
  obtain ⟨A8, L8, c8, rfl, hb8, hA8⟩ := ansX_uni hx8 hpb
  have hgw8 := grown_trans hgw7 hg8
  have hs8 := hg8.size
  have hl8 := bs_grown hl2 (by omega) hAl hgw8
  clear st7 st7k hx8
  gi_wp2_with fail
  refine (callsIn_wide.2 (refunfr_any ls A2 n2 c2 w8 (hl8.more (by omega)))).mono ?_
  rintro e w9 ⟨hx9, hB9⟩
  obtain ⟨A9, L9, c9, rfl, hb9, hA9⟩ := ansX_uni hx9 hpb
  have hgw9 := grown_trans hgw8 (grown_of_below (r := some G) hB9)
  have hs9 := hB9.size
  have st8 := strAt (hb8.below hB9)
  have st9 := strAt hb9
  have hb39 := bs_grown hb37 (by omega) hA3G (grown_trans hg8 (grown_of_below (r := some G) hB9))
  have hl9 := bs_grown hl2 (by omega) hAl hgw9
  have ht9 := ht8.below hB9 ht8.lt
  generalize (ansT (unfr ls)).1 = P at *
  generalize (ansT (unfr ls)).2.1 = K at *
  generalize (ansT (unfr ls)).2.2 = R at *
  obtain ⟨v10, w10, v11, w11, hrun10, hrun11, hm11, hB11⟩ := append_two (hb39.more (B' := w9.heap.size) (by omega)) (hb39.more (B' := w9.heap.size) (by omega)) (Nat.le_refl _) (by omega)
  obtain ⟨v12, w12, hrun12, hm12, hg12, _⟩ := append_mine (P := Try.prog) 22 Try.underlying22 info5 hm11 hB11.size ((hl9.below (hB11.mono (by omega))).more (B' := w11.heap.size) (by have := hB11.size; omega)) (by rw [List.length_append, ← HL3.out]; omega)
  have hB12 := hB11.trans (hm11.grown hg12 (Nat.le_refl _) hB11.size)
  obtain ⟨all, hall⟩ : ∃ all, F ++ F ++ ls = all := ⟨_, rfl⟩
  have hallN : all.length ≤ 16000 := by rw [← hall, List.length_append, List.length_append, ← HL3.out, hlen2.out]; omega
  rw [hall] at hm12
  obtain ⟨AL, LL, cL, rfl, hLL, hbL, hAL⟩ := mine_bsA hm12 (by omega)
  have hLLb : LL ≤ 16000 := by omega
  have HLL := hide hLL
  have H10 := hide hrun10
  have H11 := hide hrun11
  have H12 := hide hrun12
  have hgw12 := grown_trans hgw9 (grown_of_below (r := some G) hB12)
  have ht12 := ht9.below hB12 ht9.lt
  have hs12 := hgw12.size
  have hs912 := hB12.size
  have hAL' : 0 < LL → ∀ a, AL = some a → a.block ≠ G := fun _ a ha => by have := hAL a ha; omega
  clear hrun10 hrun11 hrun12 hm11 hm12 hLL hall hb8 hA8 hb9 hA9 hx9 hb37 hb39 hb7 hk7 hl7 hl8 hl9 hg8 hg12 hB9 hB11 ht7 ht8 ht9
  gi_wp2_with (first
      | (gi_at_builtin; refine wpListIn_append_run rfl _ _ 22 rfl _ _ _ rfl rfl H10.out ?_)
      | (gi_at_builtin; refine wpListIn_append_run rfl _ _ 22 rfl _ _ _ rfl rfl H11.out ?_)
      | (gi_at_builtin; refine wpListIn_append_run rfl _ _ 22 rfl _ _ _ rfl rfl H12.out ?_))
  obtain ⟨N, hfr⟩ := frames_any all
  refine (callsIn_wide.2 (refeach_any all AL LL cL N w12 hbL hfr (by omega))).mono ?_
  rintro e w13 ⟨v13, v14, rfl, hm13, hm14, hB13⟩
  obtain ⟨A13, L13, c13, rfl, hL13, _⟩ := hm13.sl (by rw [posL_len]; have := hfr.le; omega)
  obtain ⟨A14, L14, c14, rfl, hL14, _⟩ := hm14.bss (by rw [payL_len]; have := hfr.le; omega) (fun f hf => by obtain ⟨i, hi, rfl⟩ := List.mem_map.1 hf; obtain ⟨k, _, _, _, _, h5⟩ := hfr.at_ i (List.mem_range.1 hi); omega)
  rw [posL_len] at hL13
  rw [payL_len] at hL14
  subst hL13 hL14
  have hNb : L14 ≤ 16000 := by have := hfr.le; omega
  gi_wp2_with fail
  have x0 := ((Blk.new w13 64 #[.slice A13 L14 c13]).alloc (.cells #[.slice A14 L14 c14] 65))
  have x1 := Blk.new (w13.alloc (.cells #[.slice A13 L14 c13] 64)) 65 #[.slice A14 L14 c14]
  rw [World.size_alloc] at x1
  have hB15 := ((Below.refl _ w13).alloc (Nat.le_refl _) (.cells #[.slice A13 L14 c13] 64)).alloc (by simp) (.cells #[.slice A14 L14 c14] 65)
  have hz15 : ((w13.alloc (.cells #[.slice A13 L14 c13] 64)).alloc (.cells #[.slice A14 L14 c14] 65)).heap.size = w13.heap.size + 1 + 1 := by simp
  generalize (w13.alloc (.cells #[.slice A13 L14 c13] 64)).alloc (.cells #[.slice A14 L14 c14] 65) = w15 at *
  refine (callsIn_wide.2 (each_val (.pointer (some ⟨G, 0, none⟩)) AL LL cL w15 ⟨_, rfl⟩)).mono ?_
  rintro e w16 ⟨rfl, rfl⟩
  have y0 := (Blk.new w15 24 #[.pointer (some ⟨G, 0, none⟩)]).alloc (.cells #[.slice AL LL cL] 22)
  have y1 := Blk.new (w15.alloc (.cells #[.pointer (some ⟨G, 0, none⟩)] 24)) 22 #[.slice AL LL cL]
  rw [World.size_alloc] at y1
  have hB17 := ((Below.refl _ w15).alloc (Nat.le_refl _) (.cells #[.pointer (some ⟨G, 0, none⟩)] 24)).alloc (by simp) (.cells #[.slice AL LL cL] 22)
  have hz17 : ((w15.alloc (.cells #[.pointer (some ⟨G, 0, none⟩)] 24)).alloc (.cells #[.slice AL LL cL] 22)).heap.size = w15.heap.size + 1 + 1 := by simp
  have x0' := (x0.alloc (.cells #[.pointer (some ⟨G, 0, none⟩)] 24)).alloc (.cells #[.slice AL LL cL] 22)
  have x1' := (x1.alloc (.cells #[.pointer (some ⟨G, 0, none⟩)] 24)).alloc (.cells #[.slice AL LL cL] 22)
  generalize (w15.alloc (.cells #[.pointer (some ⟨G, 0, none⟩)] 24)).alloc (.cells #[.slice AL LL cL] 22) = w17 at *
  have hs13 := hB13.size
  have hB1317 := hB15.trans (hB17.mono (by omega))
  have hB1217 := hB13.trans (hB1317.mono hs13)
  have hgw17 := grown_trans hgw12 (grown_of_below (r := some G) hB1217)
  have ht17 := ht12.below hB1217 ht12.lt
  have hbL17 := (hbL.below hB1217).more (B' := w17.heap.size) (by omega)
  have hm13' := hm13.below hB1317 (Nat.le_refl _)
  have hm14' := hm14.below hB1317 (Nat.le_refl _)
  have z17 : Boxed w17 S0 4 (.bool false) := z2.kept hgw17 (by simp; omega)
  have hBw17 := hB2.grown hgw17 (by omega) (fun r e => by cases e; omega)
  obtain ⟨AT, hAT⟩ : ∃ AT, w13.heap.size = AT := ⟨_, rfl⟩
  rw [hz15, hAT] at hz17 y0 y1
  rw [hAT] at x0' x1'
  rw [hz15, hAT]
  clear x0 x1 hB15 hB17 hB13 hB1317 hB1217 hgw17 hgw12 hgw9 hgw8 hgw7 hm13 hm14 hbL ht12 ht2 z2 hz15 H5 H6 H10 H11 H12 hB2 hB12 st8 st9 hk2 hl2 hun hpb hAL
  have hMG : G < w17.heap.size := by omega
  gi_wp2
  refine wpIn_rangeFunc_B (n := 9) 0 (by omega) (gf := 31) (lb := #[.pointer (some ⟨AT + 1 + 1, 0, none⟩), .pointer (some ⟨AT + 1 + 1 + 1, 0, none⟩)]) rfl (enters_of Try.func31 (by kernel_rfl) rfl)
    L14 (fun U V => U.grownBy V (some G) ∧ ∃ b, Tbl V G b) (fun U V => Below w17.heap.size U V) (fenc all) (FVals all) (by intro _ _; rfl)
    (fun l J Jx W hW hJ _ hY h0 => each31_in 8 l (by omega) G (AT + 1 + 1) (AT + 1 + 1 + 1) w17.heap.size L14 LL cL AL all hfr (by omega) J Jx hJ (by omega) (by omega) (by omega) (by omega) hMG hY W hW.size (Blk.below y0 hW (by omega)) (Blk.below y1 hW (by omega)) _ (ht17.below hW hMG) (hbL17.below hW) hAL' h0)
    (fun h k => h.trans k) (fun W l o o' hl _ _ => ⟨rfl, rfl, rfl, by simp, fun k hk => World.putObj_heap_other (by omega)⟩)
    (fun U V hg k o hk ho _ => (hg.1.block k (Array.getElem?_eq_some_iff.1 ho).1 (by simp; omega)).trans ho)
    (fun W => w17.grownBy W (some G) ∧ ∃ b, Tbl W G b)
    (fun U V hU hg => ⟨grown_trans hU.1 hg.1, hg.2⟩)
    (fun W l o o' hW hl _ _ => ⟨grown_put hW.1 hl o', by obtain ⟨b, hb⟩ := hW.2; exact ⟨b, hb.grown (grownBy_putObj' W l o') (by simp; omega)⟩⟩)
    (fun i W x l o o' hV _ ho hc => (bs_putObj hV ho hc o').more (by simp))
    (fun o o' => ⟨grown_of_below (((Below.refl _ w17).alloc (Nat.le_refl _) o).alloc (by simp) o') _, _, (ht17.alloc o).alloc o'⟩) ?a1 ?assign ?body ?exit ?done
  case assign =>
    intro l i x W K hK
    simp only [fenc]
    gi_wp2
    exact hK
  case body =>
    intro l i x W hi hW hV
    gi_wp2
    exact ⟨KeepsFrom.refl _ _, rfl, hW⟩
  case exit =>
    intro a W h
    refine wpIn_exit ?_
    simpa only [Exit.inBlock, if_true] using h
  case done =>
    rintro D1 W18 hD1 ⟨hg18, b18, ht18⟩ hK18
    gi_wp2_with fail
    have hs18 := hg18.size
    have i0 := Blk.new W18 3 #[.int .i64 0]
    have ht19 := ht18.alloc (.cells #[.int .i64 0] 3)
    have hB19 := (Below.refl _ W18).alloc (Nat.le_refl _) (.cells #[.int .i64 0] 3)
    have hz19 : (W18.alloc (.cells #[.int .i64 0] 3)).heap.size = W18.heap.size + 1 := by simp
    have hgw19 := grown_trans hg18 (grown_of_below (r := some G) hB19)
    have hg1819 : W18.grownBy (W18.alloc (.cells #[.int .i64 0] 3)) (some G) := grown_of_below hB19 _
    generalize W18.alloc (.cells #[.int .i64 0] 3) = W19 at *
    have y0' : Boxed W19 (AT + 1 + 1) 24 (.pointer (some ⟨G, 0, none⟩)) := Boxed.kept y0 hgw19 (by simp; omega)
    have y1' : Boxed W19 (AT + 1 + 1 + 1) 22 (.slice AL LL cL) := Boxed.kept y1 hgw19 (by simp; omega)
    have hbL19 := bs_grown hbL17 (Nat.le_refl _) hAL' hgw19
    have hs19 := hgw19.size
    refine wpIn_rangeFunc_W (n := 9) (by omega) (gf := 31) (lb := #[.pointer (some ⟨AT + 1 + 1, 0, none⟩), .pointer (some ⟨AT + 1 + 1 + 1, 0, none⟩)]) rfl (enters_of Try.func31 (by kernel_rfl) rfl)
      L14 (fun U V => U.grownBy V (some G) ∧ ∃ b, Tbl V G b) (fun U V => Below W18.heap.size U V) (fenc all) (FVals all) (fun _ _ => rfl)
      (fun l J Jx W hW hJ _ hY h0 => each31_in 8 l (by omega) G (AT + 1 + 1) (AT + 1 + 1 + 1) W18.heap.size L14 LL cL AL all hfr (by omega) J Jx hJ (by omega) (by omega) (by omega) (by omega) (by omega) hY W (by have := hW.size; omega) (Blk.below y0' hW (by omega)) (Blk.below y1' hW (by omega)) _ (ht19.below hW (by omega)) ((hbL19.more hs18).below (hW.mono (by omega))) hAL' h0)
      (fun h k => h.trans k) (fun W l o o' hl _ _ => ⟨rfl, rfl, rfl, by simp, fun k hk => World.putObj_heap_other (by omega)⟩)
      (fun U V hg k o hk ho _ => (hg.1.block k (Array.getElem?_eq_some_iff.1 ho).1 (by simp; omega)).trans ho)
      (fun i W => W18.grownBy W (some G) ∧ Boxed W W18.heap.size 3 (.int .i64 (i : Int)) ∧ ∃ b, Tbl W G b) (fun _ _ _ => False)
      (fun i U V hU hg => ⟨grown_trans hU.1 hg.1, Boxed.kept hU.2.1 hg.1 (by simp; omega), hg.2⟩) (fun _ _ _ _ h _ => h)
      (fun i W l o o' hW hl ho hc => ⟨grown_put hW.1 (by omega) o', (World.putObj_heap_other (by omega)).trans hW.2.1, by obtain ⟨b, hb⟩ := hW.2.2; exact ⟨b, hb.grown (grownBy_putObj' W l o') (by simp; omega)⟩⟩)
      (fun _ _ _ _ _ _ h _ _ _ => h)
      (fun i W x l o o' hV _ ho hc => (bs_putObj hV ho hc o').more (by simp))
      (fun o o' => ⟨grown_trans hg1819 (grown_of_below (((Below.refl _ W19).alloc (Nat.le_refl _) o).alloc (by simp) o') _), (Blk.alloc (Blk.alloc i0 o) o'), _, (ht19.alloc o).alloc o'⟩) ?a1' ?assign' ?body' ?done' ?stop'
    case assign' =>
      intro l i x W K hK
      simp only [fenc]
      gi_wp2
      exact hK
    case body' =>
      rintro l i ⟨A', L', c'⟩ W hi ⟨hgW, hiB, b', htW⟩ hV
      have hgx := grown_trans hg18 hgW
      have k15 := (Boxed.kept (show Boxed w17 AT 64 (.slice A13 L14 c13) from x0') hgx (by simp; omega)).cell
      have k16 := (Boxed.kept (show Boxed w17 (AT + 1) 65 (.slice A14 L14 c14) from x1') hgx (by simp; omega)).cell
      have k18 := hiB.cell
      have g18 := hiB.frozen
      have hsl := (hm13'.far hgx (by omega)).sl' (by rw [posL_len]; omega)
      have hbss := (hm14'.far hgx (by omega)).bss' (by rw [payL_len]; omega) (fun f hf => by obtain ⟨i, hi, rfl⟩ := List.mem_map.1 hf; obtain ⟨k, _, _, _, _, h5⟩ := hfr.at_ i (List.mem_range.1 hi); omega)
      obtain ⟨e1, o1, rfl, _, hc1⟩ := hsl.at_ (by omega)
      obtain ⟨e2, o2, rfl, _, hc2⟩ := hbss.at_ (by omega)
      have r1 := hc1 i (by rw [List.length_map, posL_len]; exact hi)
      obtain ⟨X1, m1, d1, r2, hbe⟩ := hc2 i (by rw [payL_len]; exact hi)
      have q1 : (posL all L14)[i]'(by rw [posL_len]; exact hi) = ((posF all i : Nat) : Int) := by simp [posL]
      have q2 : (payL all L14)[i]'(by rw [payL_len]; exact hi) = payF all i := by simp [payL]
      rw [List.getElem_map, q1] at r1
      rw [q2] at hbe
      have s1 := strAt hV
      have s2 := strAt hbe
      simp only [iv] at r1
      have hi0 : (0 : Int) ≤ (i : Int) := by omega
      have hi1 : (i : Int) < (L14 : Int) := by omega
      have hi2 : ¬ L14 ≤ i := by omega
      have hsW := hgW.size
      have hend : ∀ (ac : Act) W', W' = (W.drew).setCell ⟨W18.heap.size, 0, none⟩ (.int .i64 ((i : Int) + 1)) → postW W19.heap.size (fun U V => Below W18.heap.size U V) (fun i W => W18.grownBy W (some G) ∧ Boxed W W18.heap.size 3 (.int .i64 (i : Int)) ∧ ∃ b, Tbl W G b) (fun _ _ _ => False) (i + 1) W .normal ac W' := by
        rintro ac W' rfl
        exact ⟨((KeepsOthers.drew W).trans (KeepsOthers.setCell W.drew _ _)).from _, (show Below W18.heap.size W W.drew from ⟨rfl, rfl, rfl, Nat.le_refl _, fun _ _ => rfl⟩).setCell (p := ⟨W18.heap.size, 0, none⟩) (Nat.le_refl _) _,
          ⟨hgW.os, hgW.tape, hgW.output, by simpa using hgW.size, fun k hk hn => (Below.heap_setCell _ _ _ _ (by simp; omega)).trans (hgW.block k hk hn)⟩,
          by simpa using Boxed.set (.int .i64 ((i : Int) + 1)) (show Boxed W.drew W18.heap.size 3 _ from hiB), _, Tb.far (Tb.drew htW) (p := ⟨W18.heap.size, 0, none⟩) (by simp; omega) _⟩
      have HS : W.drew.cell? ⟨W18.heap.size, 0, none⟩ = some (.int .i64 (i : Int)) ∧ W.drew.cell? ⟨AT, 0, none⟩ = some (.slice (some ⟨e1, o1, none⟩) L14 c13) ∧ W.drew.cell? ⟨AT + 1, 0, none⟩ = some (.slice (some ⟨e2, o2, none⟩) L14 c14) ∧ W.drew.cell? ⟨e1, o1 + i, none⟩ = some (.int .i64 ((posF all i : Nat) : Int)) ∧ W.drew.cell? ⟨e2, o2 + i, none⟩ = some (.slice X1 m1 d1) ∧ StrAt A' L' c' (payF all i) W.drew ∧ StrAt X1 m1 d1 (payF all i) W.drew := ⟨k18, k15, k16, r1, r2, strAt (hV.drewN 1), strAt (hbe.drewN 1)⟩
      have Hend := hide hend
      clear hc1 hc2 hend hsl hbss k15 k16 k18 r1 r2 s1 s2 hgx hV hbe q1 q2
      generalize hpi : posF all i = pi at *
      generalize hpy : payF all i = py at *
      gi_wp2
      refine region_round_to (S := fun W' => W'.cell? ⟨W18.heap.size, 0, none⟩ = some (.int .i64 (i : Int)) ∧ W'.cell? ⟨AT, 0, none⟩ = some (.slice (some ⟨e1, o1, none⟩) L14 c13) ∧ W'.cell? ⟨AT + 1, 0, none⟩ = some (.slice (some ⟨e2, o2, none⟩) L14 c14) ∧ W'.cell? ⟨e1, o1 + i, none⟩ = some (.int .i64 (pi : Int)) ∧ W'.cell? ⟨e2, o2 + i, none⟩ = some (.slice X1 m1 d1) ∧ StrAt A' L' c' py W' ∧ StrAt X1 m1 d1 py W') (by kernel_rfl) (by kernel_rfl) HS (fun hHeld => ?_)
      refine wpAnyH_take (i := 0) (v := ?_) rfl (by kernel_rfl) (by kernel_rfl) (by kernel_rfl) (fun _ _ _ h => by cases h.1) (Or.inl ⟨by kernel_rfl, ?_⟩) (by assumption) ?_
      rotate_left
      · (intro w hSw; (try dsimp only at hSw); go_simp; try with_reducible rfl)
      (try simp only [Act.put, List.getElem_toArray, List.getElem_cons_succ, List.getElem_cons_zero, List.setIfInBounds_toArray, List.set_cons_zero, List.set_cons_succ])
      refine wpAnyH_take (i := 1) (v := ?_) rfl (by kernel_rfl) (by kernel_rfl) (by kernel_rfl) (fun _ _ _ h => by cases h.1) (Or.inl ⟨by kernel_rfl, ?_⟩) (by assumption) ?_
      rotate_left
      · (intro w hSw; (try dsimp only at hSw); go_simp; try with_reducible rfl)
      (try simp only [Act.put, List.getElem_toArray, List.getElem_cons_succ, List.getElem_cons_zero, List.setIfInBounds_toArray, List.set_cons_zero, List.set_cons_succ])
      refine wpAnyH_take (i := 2) (v := ?_) rfl (by kernel_rfl) (by kernel_rfl) (by kernel_rfl) (fun _ _ _ h => by cases h.1) (Or.inl ⟨by kernel_rfl, ?_⟩) (by assumption) ?_
      rotate_left
      · (intro w hSw; (try dsimp only at hSw); go_simp; try with_reducible rfl)
      (try simp only [Act.put, List.getElem_toArray, List.getElem_cons_succ, List.getElem_cons_zero, List.setIfInBounds_toArray, List.set_cons_zero, List.set_cons_succ])
      refine wpAnyH_take (i := 3) (v := ?_) rfl (by kernel_rfl) (by kernel_rfl) (by kernel_rfl) (fun _ _ _ h => by cases h.1) (Or.inl ⟨by kernel_rfl, ?_⟩) (by assumption) ?_
      rotate_left
      · (intro w hSw; (try dsimp only at hSw); go_simp; try with_reducible rfl)
      (try simp only [Act.put, List.getElem_toArray, List.getElem_cons_succ, List.getElem_cons_zero, List.setIfInBounds_toArray, List.set_cons_zero, List.set_cons_succ])
      refine wpAnyH_take (i := 4) (v := ?_) rfl (by kernel_rfl) (by kernel_rfl) (by kernel_rfl) (fun _ _ _ h => by cases h.1) (Or.inl ⟨by kernel_rfl, ?_⟩) (by assumption) ?_
      rotate_left
      · (intro w hSw; (try dsimp only at hSw); go_simp; try with_reducible rfl)
      (try simp only [Act.put, List.getElem_toArray, List.getElem_cons_succ, List.getElem_cons_zero, List.setIfInBounds_toArray, List.set_cons_zero, List.set_cons_succ])
      refine wpAnyH_take (i := 5) (v := ?_) rfl (by kernel_rfl) (by kernel_rfl) (by kernel_rfl) (fun _ _ _ h => by cases h.1) (Or.inl ⟨by kernel_rfl, ?_⟩) (by assumption) ?_
      rotate_left
      · (intro w hSw; (try dsimp only at hSw); go_simp; try with_reducible rfl)
      (try simp only [Act.put, List.getElem_toArray, List.getElem_cons_succ, List.getElem_cons_zero, List.setIfInBounds_toArray, List.set_cons_zero, List.set_cons_succ])
      refine wpAnyH_take (i := 6) (v := ?_) rfl (by kernel_rfl) (by kernel_rfl) (by kernel_rfl) (fun _ _ _ h => by cases h.1) (Or.inl ⟨by kernel_rfl, ?_⟩) (by assumption) ?_
      rotate_left
      · (intro w hSw; (try dsimp only at hSw); go_simp; try with_reducible rfl)
      (try simp only [Act.put, List.getElem_toArray, List.getElem_cons_succ, List.getElem_cons_zero, List.setIfInBounds_toArray, List.set_cons_zero, List.set_cons_succ])
      refine wpAnyH_take (i := 7) (v := ?_) rfl (by kernel_rfl) (by kernel_rfl) (by kernel_rfl) (fun _ _ _ h => by cases h.1) (Or.inl ⟨by kernel_rfl, ?_⟩) (by assumption) ?_
      rotate_left
      · (intro w hSw; (try dsimp only at hSw); go_simp; try with_reducible rfl)
      (try simp only [Act.put, List.getElem_toArray, List.getElem_cons_succ, List.getElem_cons_zero, List.setIfInBounds_toArray, List.set_cons_zero, List.set_cons_succ])
      refine wpAnyH_take (i := 8) (v := ?_) rfl (by kernel_rfl) (by kernel_rfl) (by kernel_rfl) (fun _ _ _ h => by cases h.1) (Or.inl ⟨by kernel_rfl, ?_⟩) (by assumption) ?_
      rotate_left
      · (intro w hSw; (try dsimp only at hSw); go_simp; try with_reducible rfl)
      (try simp only [Act.put, List.getElem_toArray, List.getElem_cons_succ, List.getElem_cons_zero, List.setIfInBounds_toArray, List.set_cons_zero, List.set_cons_succ])
      refine wpAnyH_take (i := 9) (v := ?_) rfl (by kernel_rfl) (by kernel_rfl) (by kernel_rfl) (fun _ _ _ h => by cases h.1) (Or.inl ⟨by kernel_rfl, ?_⟩) (by assumption) ?_
      rotate_left
      · (intro w hSw; (try dsimp only at hSw); go_simp; try with_reducible rfl)
      (try simp only [Act.put, List.getElem_toArray, List.getElem_cons_succ, List.getElem_cons_zero, List.setIfInBounds_toArray, List.set_cons_zero, List.set_cons_succ])
      refine wpAnyH_take (i := 10) (v := ?_) rfl (by kernel_rfl) (by kernel_rfl) (by kernel_rfl) (fun _ _ _ h => by cases h.1) (Or.inl ⟨by kernel_rfl, ?_⟩) (by assumption) ?_
      rotate_left
      · (intro w hSw; (try dsimp only at hSw); go_simp; try with_reducible rfl)
      (try simp only [Act.put, List.getElem_toArray, List.getElem_cons_succ, List.getElem_cons_zero, List.setIfInBounds_toArray, List.set_cons_zero, List.set_cons_succ])
      refine wpAnyH_take (i := 11) (v := ?_) rfl (by kernel_rfl) (by kernel_rfl) (by kernel_rfl) (fun _ _ _ h => by cases h.1) (Or.inl ⟨by kernel_rfl, ?_⟩) (by assumption) ?_
      rotate_left
      · (intro w hSw; (try dsimp only at hSw); go_simp; try with_reducible rfl)
      (try simp only [Act.put, List.getElem_toArray, List.getElem_cons_succ, List.getElem_cons_zero, List.setIfInBounds_toArray, List.set_cons_zero, List.set_cons_succ])
      refine wpAnyH_take (i := 12) (v := ?_) rfl (by kernel_rfl) (by kernel_rfl) (by kernel_rfl) (fun _ _ _ h => by cases h.1) (Or.inl ⟨by kernel_rfl, ?_⟩) (by assumption) ?_
      rotate_left
      · (intro w hSw; (try dsimp only at hSw); go_simp; try with_reducible rfl)
      (try simp only [Act.put, List.getElem_toArray, List.getElem_cons_succ, List.getElem_cons_zero, List.setIfInBounds_toArray, List.set_cons_zero, List.set_cons_succ])
      refine wpAnyH_take (i := 13) (v := ?_) rfl (by kernel_rfl) (by kernel_rfl) (by kernel_rfl) (fun _ _ _ h => by cases h.1) (Or.inl ⟨by kernel_rfl, ?_⟩) (by assumption) ?_
      rotate_left
      · (intro w hSw; (try dsimp only at hSw); go_simp; try with_reducible rfl)
      (try simp only [Act.put, List.getElem_toArray, List.getElem_cons_succ, List.getElem_cons_zero, List.setIfInBounds_toArray, List.set_cons_zero, List.set_cons_succ])
      refine wpAnyH_take (i := 14) (v := ?_) rfl (by kernel_rfl) (by kernel_rfl) (by kernel_rfl) (fun _ _ _ h => by cases h.1) (Or.inl ⟨by kernel_rfl, ?_⟩) (by assumption) ?_
      rotate_left
      · (intro w hSw; (try dsimp only at hSw); go_simp; try with_reducible rfl)
      (try simp only [Act.put, List.getElem_toArray, List.getElem_cons_succ, List.getElem_cons_zero, List.setIfInBounds_toArray, List.set_cons_zero, List.set_cons_succ])
      refine wpAnyH_take (i := 15) (v := ?_) rfl (by kernel_rfl) (by kernel_rfl) (by kernel_rfl) (fun _ _ _ h => by cases h.1) (Or.inl ⟨by kernel_rfl, ?_⟩) (by assumption) ?_
      rotate_left
      · (intro w hSw; (try dsimp only at hSw); go_simp; try with_reducible rfl)
      (try simp only [Act.put, List.getElem_toArray, List.getElem_cons_succ, List.getElem_cons_zero, List.setIfInBounds_toArray, List.set_cons_zero, List.set_cons_succ])
      refine wpAnyH_take (i := 16) (v := ?_) rfl (by kernel_rfl) (by kernel_rfl) (by kernel_rfl) (fun _ _ _ h => by cases h.1) (Or.inl ⟨by kernel_rfl, ?_⟩) (by assumption) ?_
      rotate_left
      · (intro w hSw; (try dsimp only at hSw); go_simp; try with_reducible rfl)
      (try simp only [Act.put, List.getElem_toArray, List.getElem_cons_succ, List.getElem_cons_zero, List.setIfInBounds_toArray, List.set_cons_zero, List.set_cons_succ])
      refine wpAnyH_take (i := 17) (v := ?_) rfl (by kernel_rfl) (by kernel_rfl) (by kernel_rfl) (fun _ _ _ h => by cases h.1) (Or.inl ⟨by kernel_rfl, ?_⟩) (by assumption) ?_
      rotate_left
      · (intro w hSw; (try dsimp only at hSw); go_simp; try with_reducible rfl)
      (try simp only [Act.put, List.getElem_toArray, List.getElem_cons_succ, List.getElem_cons_zero, List.setIfInBounds_toArray, List.set_cons_zero, List.set_cons_succ])
      refine wpAnyH_take (i := 18) (v := ?_) rfl (by kernel_rfl) (by kernel_rfl) (by kernel_rfl) (fun _ _ _ h => by cases h.1) (Or.inl ⟨by kernel_rfl, ?_⟩) (by assumption) ?_
      rotate_left
      · (intro w hSw; (try dsimp only at hSw); go_simp; try with_reducible rfl)
      (try simp only [Act.put, List.getElem_toArray, List.getElem_cons_succ, List.getElem_cons_zero, List.setIfInBounds_toArray, List.set_cons_zero, List.set_cons_succ])
      refine wpAnyH_take (i := 19) (v := ?_) rfl (by kernel_rfl) (by kernel_rfl) (by kernel_rfl) (fun _ _ _ h => by cases h.1) (Or.inl ⟨by kernel_rfl, ?_⟩) (by assumption) ?_
      rotate_left
      · (intro w hSw; (try dsimp only at hSw); go_simp; try with_reducible rfl)
      (try simp only [Act.put, List.getElem_toArray, List.getElem_cons_succ, List.getElem_cons_zero, List.setIfInBounds_toArray, List.set_cons_zero, List.set_cons_succ])
      refine wpAnyH_take (i := 20) (v := ?_) rfl (by kernel_rfl) (by kernel_rfl) (by kernel_rfl) (fun _ _ _ h => by cases h.1) (Or.inl ⟨by kernel_rfl, ?_⟩) (by assumption) ?_
      rotate_left
      · (intro w hSw; (try dsimp only at hSw); go_simp; try with_reducible rfl)
      (try simp only [Act.put, List.getElem_toArray, List.getElem_cons_succ, List.getElem_cons_zero, List.setIfInBounds_toArray, List.set_cons_zero, List.set_cons_succ])
      refine wpAnyH_take (i := 21) (v := ?_) rfl (by kernel_rfl) (by kernel_rfl) (by kernel_rfl) (fun _ _ _ h => by cases h.1) (Or.inl ⟨by kernel_rfl, ?_⟩) (by assumption) ?_
      rotate_left
      · (intro w hSw; (try dsimp only at hSw); go_simp; try with_reducible rfl)
      (try simp only [Act.put, List.getElem_toArray, List.getElem_cons_succ, List.getElem_cons_zero, List.setIfInBounds_toArray, List.set_cons_zero, List.set_cons_succ])
      refine wpAnyH_done (by kernel_rfl) ?_ _
      refine ⟨rfl, ?_⟩
      have k18 : W.drew.cell? ⟨W18.heap.size, 0, none⟩ = some (.int .i64 (i : Int)) := hiB.cell
      have g18' : W.drew.frozen? ⟨W18.heap.size, 0, none⟩ = false := hiB.frozen
      gi_wp2
      exact Hend.out _ _ rfl
    case done' =>
      rintro D2 W hD2 ⟨hgW, hiB, b', htW⟩ hK2
      have hgx := grown_trans hg18 hgW
      have k16 := (Boxed.kept (show Boxed w17 (AT + 1) 65 (.slice A14 L14 c14) from x1') hgx (by simp; omega)).cell
      have k18 := hiB.cell
      have zW := z17.kept hgx (by simp; omega)
      have k4 := zW.cell
      have g4 := zW.frozen
      have hK1 : W.heap[D1]? = some (.deferred (some [])) := (hgW.block D1 (Array.getElem?_eq_some_iff.1 hK18).1 (by simp; omega)).trans hK18
      have hD12 : D1 ≠ D2 := fun e => by have := (Array.getElem?_eq_some_iff.1 hK18).1; omega
      have hBW := hBw17.grown hgx (by omega) (fun r e => by cases e; omega)
      gi_wp2
      have zt := zW.set (.bool true)
      have hK2' := (KeepsOthers.setCell W ⟨S0, 0, none⟩ (.bool true)).same D2 _ hK2 rfl
      have hK1' := (KeepsOthers.setCell W ⟨S0, 0, none⟩ (.bool true)).same D1 _ hK1 rfl
      have hBf := hBW.setCell (p := ⟨S0, 0, none⟩) (Nat.le_refl _) (.bool true)
      generalize W.setCell ⟨S0, 0, none⟩ (.bool true) = Wf at *
      refine ⟨by simp, .inl ⟨_, _, rfl, run_takeDeferred hK2', ?_⟩⟩
      have hK1'' : (Wf.putObj D2 (.deferred none)).heap[D1]? = some (.deferred (some [])) := (World.putObj_heap_other hD12).trans hK1'
      refine ⟨by simp, .inl ⟨_, _, rfl, run_takeDeferred hK1'', ?_⟩⟩
      have hc5 := cell_kept (cell_kept zt.cell (grownBy_putObj' _ D2 (.deferred none)) (fun r e => by cases e; exact ⟨_, hK2', rfl⟩)) (grownBy_putObj' _ D1 (.deferred none)) (fun r e => by cases e; exact ⟨_, hK1'', rfl⟩)
      refine ⟨.bool true, ?_, rfl, ?_⟩
      · simp [results, Try.f6, go_sem, hc5]
      · have q1 : Below S0 Wf (Wf.putObj D2 (.deferred none)) := ⟨rfl, rfl, rfl, by simp, fun k hk => World.putObj_heap_other (by omega)⟩
        have q2 : Below S0 (Wf.putObj D2 (.deferred none)) ((Wf.putObj D2 (.deferred none)).putObj D1 (.deferred none)) := ⟨rfl, rfl, rfl, by simp, fun k hk => World.putObj_heap_other (by omega)⟩
        rw [HS0.out]
        exact (hBf.trans q1).trans q2
    case stop' =>
      rintro D c i W _ _ hh _
      exact hh.elim

end Go.Proofs.Ytdnhpmdmkdgmpaa
