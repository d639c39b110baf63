/-
  The walk of the law CrcOnce: it answers true. Condition: the slice reads as bytes.
-/
import Derived.Test.YtdnhpmdmkdgmpaaEachN
namespace Go.Proofs.Ytdnhpmdmkdgmpaa
open Go.RowKit Go.Shelf

attribute [local go_sem] Oper.semAt_some

theorem wpListIn_append_run {F : Fence} {n : Nat} {P : Program} {w w' : World} {ops : Array Oper} {rest : List Oper} {o : Oper} {a : Act} {Q : Exit → Act → World → Prop} (hgd : o.guard = none) (s x : Operand) (t : TypeId)
    (ho : o.op = .call { callee := .builtin .append, args := #[s, x], argTypes := #[t, t] }) (v u r : Value) (hs : a.eval s = v) (hx : a.eval x = u)
    (hr : (Builtin.append_ #[t, t] o.type #[v, u]).run P w = .ok r w') (h : wpListIn F n P ops Q rest (a.put o.dst r) w') : wpListIn F n P ops Q (o :: rest) a w := by
  refine wpListIn_plain hgd fun K hK' => ?_
  unfold Oper.wpIn
  refine ⟨?_, ?_⟩
  · simp [Oper.about, ho, resolve, Target.leads, Sem.run_pure]
  · rw [Oper.semAt_plain F _ _ (by rw [ho]; intro c hc'; cases hc')]
    simp [execOp, ho, resolve, invoke, builtin, hs, hx, hr, Result.andThen]
    exact hK' _ _ h

theorem Mine.lit (w : World) (ks : List UInt8) (n : Nat) (hn : ks.length = n) (base : Nat) (hb : base ≤ w.heap.size) (hm : n ≤ 140737488351232) : Mine 5 (w.alloc (.cells (ks.map b8).toArray 5)) base (.slice (some ⟨w.heap.size, 0, none⟩) n n) ks := by
  subst hn
  exact ⟨by simp, .inr ⟨w.heap.size, ks.length, (ks.map b8).toArray, rfl, hb, heap_alloc_new w _, Nat.le_refl _, by unfold maxLen; omega, by simp, by simp [List.take_of_length_le]⟩⟩
theorem Mine.bsA {e : TypeId} {w : World} {base : Nat} {v : Value} {ks : List UInt8} (h : Mine e w base v ks) (hr : ks.length ≤ 140737488351232) : ∃ A L c, v = .slice A L c ∧ L = ks.length ∧ Bs w w.heap.size A L c ks ∧ ∀ a, A = some a → base ≤ a.block := by
  obtain ⟨A, c, e1, e2, _, e4⟩ := h.bs hr
  exact ⟨A, _, c, e1, rfl, e2, fun a ha => by obtain ⟨g, rfl, h1, _⟩ := e4 a ha; exact h1⟩

def encN (_ : Unit) : Array Value := #[.int .i64 0, .slice none 0 0]
/-- the loop tells nothing -/
theorem eachN_stops (v : Value) (B1 B2 : Nat) (A : Option Addr) (n c : Nat) (k : Nat) (hk : 1 ≤ k) (w : World) (hv : ∀ g, v = .pointer (some ⟨g, 0, none⟩) → g < w.heap.size) (b1 : B1 < w.heap.size) (b2 : B2 < w.heap.size)
    (h1 : w.cell? ⟨B1, 0, none⟩ = some v) (h2 : w.cell? ⟨B2, 0, none⟩ = some (.slice A n c)) (h : NoTb w v) :
    SeqStopsK Fence.wide k Try.prog 31 #[.pointer (some ⟨B1, 0, none⟩), .pointer (some ⟨B2, 0, none⟩)] encN (fun _ _ => True) (fun ys => ys = []) (fun _ => False) 0 w := fun l J Jx W hW hJ _ hY h0 => by
  refine (callsIn_wide.2 (eachN_any v B1 B2 A n c _ W ((hW.cell (p := ⟨B1, 0, none⟩) b1).trans h1) ((hW.cell (p := ⟨B2, 0, none⟩) b2).trans h2) (h.below hW hv))).mono ?_
  rintro e w' ⟨rfl, m, rfl⟩
  exact ⟨⟨_, rfl⟩, .inl ⟨[], rfl, abides_drewN hJ _ _ _ h0⟩⟩

theorem run_neq_func (f : Fn) (a c : Array Value) (w : World) : (binOp .neq 53 (.func f a c) .nilFunc).run Try.prog w = .ok (.bool true) w := by
  have h : ∀ d : Nat, (Op.equalIn (d + 1) 53 (.func f a c) .nilFunc).run Try.prog w = .ok false w := fun d => by
    simp [Op.equalIn, run_underlying Try.underlying53]
  simp only [binOp]
  simp [Op.equal, Op.maxDepth, h 9999]
/-- what stands ahead of the last loop -/
structure Ahead (w W : World) (R X E : Nat) (A : Option Addr) (n c : Nat) (ks : List UInt8) (Ds : List Nat) : Prop where
  r : Blk W R 4 #[.bool false]
  x : Blk W X 24 #[.pointer none, .pointer (some ⟨E, 0, none⟩)]
  e : Tb W E 0 0 0 0 0
  m : Marks W w.heap.size Ds
  b : Below w.heap.size w W
  k : Bs W w.heap.size A n c ks
theorem Ahead.step {w W W' : World} {R X E : Nat} {A : Option Addr} {n c : Nat} {ks : List UInt8} {Ds : List Nat} (h : Ahead w W R X E A n c ks Ds) (hb : Below W.heap.size W W') : Ahead w W' R X E A n c ks Ds :=
  ⟨h.r.below hb h.r.lt, h.x.below hb h.x.lt, h.e.below hb h.e.lt, h.m.below hb (Nat.le_refl _), h.b.trans (hb.mono h.b.size), h.k.below (hb.mono h.b.size)⟩

/-- the end: the marks are taken; the result's cell is true -/
theorem end3 {w W : World} {tmps : Array Value} {Ds : List Nat} (hm : Marks W w.heap.size Ds) (hr : Blk W w.heap.size 4 #[.bool true]) (hB : Below w.heap.size w W) (ht : tmps.getD 4 undef = .pointer (some ⟨w.heap.size, 0, none⟩)) :
    LeavesInM Fence.wide 9 Try.prog Try.f3 tmps (fun e w' => e = .returned (.bool true) ∧ Below w.heap.size w w') (Ds.map markOf) .returning W :=
  leaves_marks Ds W hm (fun w' hw' => by
    have hc := (hw'.blk hr).cell 0
    rw [Array.getD_eq_getD_getElem?] at ht
    refine ⟨.bool true, ?_, rfl, Shut.below hB hw'⟩
    simp [results, Try.f3, go_sem, ht, hc])

set_option maxRecDepth 100000 in
set_option maxHeartbeats 4000000 in
theorem once_any (ks : List UInt8) (A : Option Addr) (n c : Nat) (x : Int) (w : World) (hks : Bs w w.heap.size A n c ks) (_ : -9223372036854775808 ≤ x) (_ : x ≤ 9223372036854775807) :
    Calls Try.prog 3 #[.slice A n c, .int .i64 x] w fun e w' => e = .returned (.bool true) ∧ Below w.heap.size w w' := by
  have hlen := hide hks.len
  have hnf := run_neq_func
  refine (callsIn_wide (n := 9)).1 ?_
  refine callsIn_of_wp_marks Try.func3 rfl trivial ?_ rfl
  simp only [Try.ntmps3, List.size_toArray, List.length_cons, List.length_nil, Nat.reduceAdd, Nat.reduceSub, Array.replicate_succ, Array.replicate_zero, List.push_toArray, List.append_toArray, List.nil_append, List.cons_append]
  have f7 : Fence.wide.fn 7 := trivial
  have f8 : Fence.wide.fn 8 := trivial
  have f9 : Fence.wide.fn 9 := trivial
  have f10 : Fence.wide.fn 10 := trivial
  have f11 : Fence.wide.fn 11 := trivial
  have f12 : Fence.wide.fn 12 := trivial
  have f13 : Fence.wide.fn 13 := trivial
  have f14 : Fence.wide.fn 14 := trivial
  have r0 := Blk.new w 4 #[.bool false]
  have hB0 : Below w.heap.size w (w.alloc (.cells #[.bool false] 4)) := (Below.refl _ w).alloc (Nat.le_refl _) _
  have hk0 := hks.below hB0
  have hs0 : (w.alloc (.cells #[.bool false] 4)).heap.size = w.heap.size + 1 := by simp
  gi_wp2_with fail
  refine (callsIn_wide.2 (awake_any _)).mono ?_
  rintro e w1 ⟨rfl, hB1⟩
  have r1 := r0.below hB1 r0.lt
  have hBw1 := hB0.trans (hB1.mono (by omega))
  have hs1 := hBw1.size
  have c1 := r1.cell 0
  have g1 := r1.frozen 0
  by_cases hlong : 2000 < n
  · gi_wp2
    exact end3 (Ds := []) (Marks.nil _ _) (r1.put 0 _) (hBw1.setCell (p := ⟨w.heap.size, 0, none⟩) (Nat.le_refl _) _) rfl
  · gi_wp2_with fail
    refine (callsIn_wide.2 (new_any _)).mono ?_
    rintro e w2 ⟨rfl, rfl⟩
    have ht2 : Tbl (w1.alloc (.cells (tbCells 1) 44)) w1.heap.size false := tb_of _ _ 1 (Blk.new w1 44 _)
    have r2 := r1.alloc (.cells (tbCells 1) 44)
    have hBw2 := hBw1.alloc hs1 (.cells (tbCells 1) 44)
    have hRl := r1.lt
    generalize w1.alloc (.cells (tbCells 1) 44) = w2 at *
    obtain ⟨G, hG⟩ : ∃ G, w1.heap.size = G := ⟨_, rfl⟩
    rw [hG] at ht2 hs1 hRl ⊢
    clear hG c1 g1 hBw1 r1 r0 hB0 hk0 hs0 hB1
    clear w1
    have hs2 := hBw2.size
    gi_wp2_with fail
    refine (callsIn_wide.2 (made_any G 1 0 0 0 0 _ ht2 (.inl rfl))).mono ?_
    rintro e w' ⟨rfl, rfl⟩
    gi_wp2
    gi_loopw [6] (fun t6 wr => ∃ (i : Nat) (b : Bool), i ≤ 5 ∧ t6 = .int .i64 (i : Int) ∧ Tbl wr G b ∧ Blk wr w.heap.size 4 #[.bool false] ∧ Below w.heap.size w wr) (fun t6 _ => 5 - (intOf t6).toNat)
    case atStart => exact ⟨0, false, by omega, rfl, ht2, r2, hBw2⟩
    case round =>
      obtain ⟨i, b, hi, rfl, ht, hr, hB⟩ := hrel
      clear ht2 r2 hBw2 hs2
      have hsr := hB.size
      have hkr := hks.below hB
      have hT : x.tmod 5 < 5 := Int.tmod_lt_of_pos _ (by omega)
      by_cases hlt : (i : Int) < x.tmod 5
      · have hi4 : i < 5 := by omega
        have hm0 := Mine.lit wr [1] 1 rfl wr.heap.size (Nat.le_refl _) (by omega)
        have ht1 := ht.alloc (.cells (([1] : List UInt8).map b8).toArray 5)
        have hr1 := hr.alloc (.cells (([1] : List UInt8).map b8).toArray 5)
        have hB1 := hB.alloc hsr (.cells (([1] : List UInt8).map b8).toArray 5)
        have hk1 := hkr.alloc hsr (.cells (([1] : List UInt8).map b8).toArray 5)
        have hgl := ht.lt
        obtain ⟨v2, w2', hrun, hm2, hg2, _⟩ := append_mine (P := Try.prog) 22 Try.underlying22 info5 hm0 (by simp) hk1 (by simp; omega)
        have hr2 := mine_far hm0
        have ht2 := ht1.grown hg2 (fun e => by have := hr2 G e.symm; omega)
        have hr2' := hr1.grown hg2 (fun e => by have := hr2 _ e.symm; omega)
        have hB2 := hB1.grown hg2 hB1.size (fun r e => by have := hr2 r e; omega)
        obtain ⟨A2, L2, c2, rfl, hL2, hb2, hA2⟩ := Mine.bsA hm2 (by have := hlen.out; simp; omega)
        have hL2p : 0 < L2 := by rw [hL2]; simp
        have Hrun := hide hrun
        clear hm0 hm2 hg2 ht1 hr1 hB1 hk1 hL2 hrun
        gi_wp2_with (gi_at_builtin; refine wpListIn_append_run rfl _ _ 22 rfl _ _ _ rfl rfl Hrun.out ?_)
        refine (callsIn_wide.2 (sum_any G b _ A2 L2 c2 w2' ht2 hb2 (fun _ a ha => by have := hA2 a ha; omega))).mono ?_
        rintro e w3 ⟨rfl, ht3, hg3⟩
        rw [show (b || decide (0 < L2)) = true by simp [hL2p]] at ht3
        have hB3 := hB2.grown hg3 hB2.size (fun r e => by cases e; exact hs1)
        have hr3 := hr2'.grown hg3 (fun e => by injection e with e; omega)
        clear hg3 hr2' hB2 ht2
        gi_wp2_with fail
        refine (callsIn_wide.2 (made_any G 1 1 0 1 256 _ ht3 (.inr rfl))).mono ?_
        rintro e w' ⟨rfl, rfl⟩
        gi_wp2
        go_roundw
        case rel => exact ⟨i + 1, true, by omega, by simp, ht3, hr3, hB3⟩
        case measure => simp [intOf]; omega
      · have e1 := Blk.new wr 44 Try.zeroCells44
        have ha : Ahead w ((wr.alloc (.cells Try.zeroCells44 44)).alloc (.cells #[.pointer none, .pointer (some ⟨wr.heap.size, 0, none⟩)] 24)) w.heap.size (wr.heap.size + 1) wr.heap.size A n c ks [] :=
          ⟨(hr.alloc _).alloc _, by have := Blk.new (wr.alloc (.cells Try.zeroCells44 44)) 24 #[.pointer none, .pointer (some ⟨wr.heap.size, 0, none⟩)]; rwa [World.size_alloc] at this, (tb_zero _ _ e1).alloc _, Marks.nil _ _, (hB.alloc hsr _).alloc (by simp; omega) _, (hkr.alloc hsr _).alloc (by simp; omega) _⟩
        obtain ⟨E, hE⟩ : ∃ E, wr.heap.size = E := ⟨_, rfl⟩
        obtain ⟨X, hX⟩ : ∃ X, E + 1 = X := ⟨_, rfl⟩
        have HE := hide hE
        have HX := hide hX
        rw [hE, hX] at ha
        clear hE hX e1 hr ht hkr
        gi_wp2
        rw [HE.out, HX.out]
        generalize (wr.alloc (.cells Try.zeroCells44 44)).alloc (.cells #[.pointer none, .pointer (some ⟨E, 0, none⟩)] 24) = W0 at *
        clear hB hsr
        have x0 := ha.x.cell 0
        have x1 := ha.x.cell 1
        refine wpIn_loop_rounds 3 ?_
        rw [roundsIn_succ]
        gi_wp2_with fail
        refine (callsIn_wide.2 (frame_none (.pointer none) A n c _ (.inl rfl))).mono ?_
        rintro e w' ⟨rfl, rfl⟩
        gi_wp2_with fail
        refine (callsIn_wide.2 (unframe_none (.pointer none) A n c _ (.inl rfl))).mono ?_
        rintro e w' ⟨rfl, rfl⟩
        gi_wp2_with fail
        refine (callsIn_wide.2 (sum_none (.pointer none) A n c _ (.inl rfl))).mono ?_
        rintro e q1 ⟨rfl, hq1⟩
        replace ha := ha.step hq1
        clear hq1
        gi_wp2_with fail
        refine (callsIn_wide.2 (ext_none (.pointer none) 3 A n c _ (.inl rfl))).mono ?_
        rintro e q2 ⟨rfl, hq2⟩
        replace ha := ha.step hq2
        clear hq2
        gi_wp2_with fail
        refine (callsIn_wide.2 (made_none (.pointer none) _ (.inl rfl))).mono ?_
        rintro e w' ⟨rfl, rfl⟩
        gi_wp2_with fail
        refine (callsIn_wide.2 (each_val (.pointer none) A n c _ ⟨_, rfl⟩)).mono ?_
        rintro e w' ⟨rfl, rfl⟩
        have hq := ((Below.refl q2.heap.size q2).alloc (Nat.le_refl _) (.cells #[.pointer none] 24)).alloc (by simp) (.cells #[.slice A n c] 22)
        have d1 := (Blk.new q2 24 #[.pointer none]).alloc (.cells #[.slice A n c] 22)
        have d2 := Blk.new (q2.alloc (.cells #[.pointer none] 24)) 22 #[.slice A n c]
        rw [World.size_alloc] at d2
        replace ha := ha.step hq
        clear hq
        generalize (q2.alloc (.cells #[.pointer none] 24)).alloc (.cells #[.slice A n c] 22) = q3 at *
        have hel := ha.e.lt
        gi_wp2_with fail
        refine wpIn_rangeFunc_ownG (n := 9) rfl (by omega) (gf := 31) (lb := #[.pointer (some ⟨q2.heap.size, 0, none⟩), .pointer (some ⟨q2.heap.size + 1, 0, none⟩)]) rfl trivial (enters_of Try.func31 (by kernel_rfl) rfl)
          (eachN_stops (.pointer none) q2.heap.size (q2.heap.size + 1) A n c (9 - 1) (by omega) q3 (by simp <;> omega) d1.lt d2.lt (d1.cell 0) (d2.cell 0) (.inl rfl))
          (fun _ _ => trivial) (fun _ _ _ _ _ _ _ _ => trivial) (Below.refl _ _) (fun _ => rfl)
          (fun _ W => Below q3.heap.size q3 W) (fun _ _ _ => False) (ownFrom_below (Nat.le_refl _) (Nat.le_refl _)) (fun _ _ _ _ _ hs _ _ => hs) (Below.refl _ _) ?aD1 ?assignD1 ?bodyD1 ?doneD1 ?stopD1
        case assignD1 =>
          intro l x W K hK
          simp only [encN]
          gi_wp2
          exact hK
        case bodyD1 =>
          intro l pre x W _ hp
          exact absurd hp (Nat.not_lt_zero _)
        case stopD1 =>
          rintro D c' pre W _ _ hh _
          exact hh.elim
        rintro D1 ys W1 hD rfl hbq hK
        have hmD1 := (ha.step hbq).m.cons hK (by have := ha.b.size; omega) (fun hm => by have := ha.m.lt hm; omega)
        replace ha : Ahead w W1 w.heap.size X E A n c ks [D1] := ⟨(ha.step hbq).r, (ha.step hbq).x, (ha.step hbq).e, hmD1, (ha.step hbq).b, (ha.step hbq).k⟩
        clear hK hbq hD hmD1 d1 d2 hel x0 x1
        have x0 := ha.x.cell 0
        have x1 := ha.x.cell 1
        gi_wp2
        rw [roundsIn_succ]
        gi_wp2_with fail
        refine (callsIn_wide.2 (frame_none (.pointer (some ⟨E, 0, none⟩)) A n c _ (.inr ⟨E, rfl, ha.e⟩))).mono ?_
        rintro e w' ⟨rfl, rfl⟩
        gi_wp2_with fail
        refine (callsIn_wide.2 (unframe_none (.pointer (some ⟨E, 0, none⟩)) A n c _ (.inr ⟨E, rfl, ha.e⟩))).mono ?_
        rintro e w' ⟨rfl, rfl⟩
        gi_wp2_with fail
        refine (callsIn_wide.2 (sum_none (.pointer (some ⟨E, 0, none⟩)) A n c _ (.inr ⟨E, rfl, ha.e⟩))).mono ?_
        rintro e q1 ⟨rfl, hq1⟩
        replace ha := ha.step hq1
        clear hq1
        gi_wp2_with fail
        refine (callsIn_wide.2 (ext_none (.pointer (some ⟨E, 0, none⟩)) 3 A n c _ (.inr ⟨E, rfl, ha.e⟩))).mono ?_
        rintro e q2 ⟨rfl, hq2⟩
        replace ha := ha.step hq2
        clear hq2
        gi_wp2_with fail
        refine (callsIn_wide.2 (made_none (.pointer (some ⟨E, 0, none⟩)) _ (.inr ⟨E, rfl, ha.e⟩))).mono ?_
        rintro e w' ⟨rfl, rfl⟩
        gi_wp2_with fail
        refine (callsIn_wide.2 (each_val (.pointer (some ⟨E, 0, none⟩)) A n c _ ⟨_, rfl⟩)).mono ?_
        rintro e w' ⟨rfl, rfl⟩
        have hq := ((Below.refl q2.heap.size q2).alloc (Nat.le_refl _) (.cells #[.pointer (some ⟨E, 0, none⟩)] 24)).alloc (by simp) (.cells #[.slice A n c] 22)
        have d1 := (Blk.new q2 24 #[.pointer (some ⟨E, 0, none⟩)]).alloc (.cells #[.slice A n c] 22)
        have d2 := Blk.new (q2.alloc (.cells #[.pointer (some ⟨E, 0, none⟩)] 24)) 22 #[.slice A n c]
        rw [World.size_alloc] at d2
        replace ha := ha.step hq
        clear hq
        generalize (q2.alloc (.cells #[.pointer (some ⟨E, 0, none⟩)] 24)).alloc (.cells #[.slice A n c] 22) = q3 at *
        have hel := ha.e.lt
        gi_wp2_with fail
        refine wpIn_rangeFunc_ownG (n := 9) rfl (by omega) (gf := 31) (lb := #[.pointer (some ⟨q2.heap.size, 0, none⟩), .pointer (some ⟨q2.heap.size + 1, 0, none⟩)]) rfl trivial (enters_of Try.func31 (by kernel_rfl) rfl)
          (eachN_stops (.pointer (some ⟨E, 0, none⟩)) q2.heap.size (q2.heap.size + 1) A n c (9 - 1) (by omega) q3 (by simp <;> omega) d1.lt d2.lt (d1.cell 0) (d2.cell 0) (.inr ⟨E, rfl, ha.e⟩))
          (fun _ _ => trivial) (fun _ _ _ _ _ _ _ _ => trivial) (Below.refl _ _) (fun _ => rfl)
          (fun _ W => Below q3.heap.size q3 W) (fun _ _ _ => False) (ownFrom_below (Nat.le_refl _) (Nat.le_refl _)) (fun _ _ _ _ _ hs _ _ => hs) (Below.refl _ _) ?aD2 ?assignD2 ?bodyD2 ?doneD2 ?stopD2
        case assignD2 =>
          intro l x W K hK
          simp only [encN]
          gi_wp2
          exact hK
        case bodyD2 =>
          intro l pre x W _ hp
          exact absurd hp (Nat.not_lt_zero _)
        case stopD2 =>
          rintro D c' pre W _ _ hh _
          exact hh.elim
        rintro D2 ys W2 hD rfl hbq hK
        have hmD2 := (ha.step hbq).m.cons hK (by have := ha.b.size; omega) (fun hm => by have := ha.m.lt hm; omega)
        replace ha : Ahead w W2 w.heap.size X E A n c ks [D2, D1] := ⟨(ha.step hbq).r, (ha.step hbq).x, (ha.step hbq).e, hmD2, (ha.step hbq).b, (ha.step hbq).k⟩
        clear hK hbq hD hmD2 d1 d2 hel x0 x1
        have x0 := ha.x.cell 0
        have x1 := ha.x.cell 1
        gi_wp2
        rw [roundsIn_succ]
        have c1 := ha.r.cell 0
        have g1 := ha.r.frozen 0
        gi_wp2
        exact end3 (Ds := [D2, D1]) (ha.m.setCell _ _) (ha.r.put 0 _) (ha.b.setCell (p := ⟨w.heap.size, 0, none⟩) (Nat.le_refl _) _) rfl

end Go.Proofs.Ytdnhpmdmkdgmpaa
