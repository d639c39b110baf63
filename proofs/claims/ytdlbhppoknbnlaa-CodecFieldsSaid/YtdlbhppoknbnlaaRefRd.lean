/-
  The walks of the reference's reader. Condition: its bytes read as such, in a block below its own.
-/
import Derived.Test.YtdlbhppoknbnlaaRdR
import Derived.Test.YtdlbhppoknbnlaaReads
namespace Go.Proofs.Ytdlbhppoknbnlaa
open Go.RowKit

/-- the reference reader's three cells: its bytes, where it stands, its error -/
def Rfr (w : World) (O : Nat) (A : Option Addr) (n c : Nat) (at_ er : Int) : Prop := Blk w O 51 #[.slice A n c, .int .i64 at_, .int .i64 er]
theorem Rfr.far {w : World} {R n c : Nat} {A : Option Addr} {a b : Int} (h : Rfr w R A n c a b) {p : Addr} (hp : R ≠ p.block) (u : Value) : Rfr (w.setCell p u) R A n c a b := Blk.far h hp u
theorem Rfr.below {w w' : World} {R n c B : Nat} {A : Option Addr} {a b : Int} (h : Rfr w R A n c a b) (hb : Below B w w') (hR : R < B) : Rfr w' R A n c a b := Blk.below h hb hR
theorem Rfr.setE {w : World} {R n c : Nat} {A : Option Addr} {a b : Int} (h : Rfr w R A n c a b) (z : Int) : Rfr (w.setCell ⟨R, 2, none⟩ (.int .i64 z)) R A n c a z := Blk.put h 2 _
theorem Rfr.setA {w : World} {R n c : Nat} {A : Option Addr} {a b : Int} (h : Rfr w R A n c a b) (z : Int) : Rfr (w.setCell ⟨R, 1, none⟩ (.int .i64 z)) R A n c z b := Blk.put h 1 _

/-- the reference's reader behind a call -/
def WentR (w : World) (O : Nat) (A : Option Addr) (n c : Nat) (V : Value → World → Prop) (k' : Nat) (er' : Int) (e : Ending) (w' : World) : Prop :=
  w.grownBy w' (some O) ∧ Rfr w' O A n c (k' : Int) er' ∧ ∃ v, e = .returned v ∧ V v w'

set_option maxRecDepth 100000 in
theorem step_ok (O n c k m : Nat) (A : Option Addr) (w : World) (h : Rfr w O A n c (k : Int) 0) (hk : k + m ≤ 140737488355328) :
    Calls Try.prog 61 #[.pointer (some ⟨O, 0, none⟩), .int .i64 (m : Int), .int .i64 0] w fun e w' => e = .returned (.bool true) ∧ w' = w.setCell ⟨O, 1, none⟩ (.int .i64 ((k + m : Nat) : Int)) := by
  have c1 : w.cell? ⟨O, 1, none⟩ = some (.int .i64 (k : Int)) := h.cell 1
  have c2 : w.cell? ⟨O, 2, none⟩ = some (.int .i64 0) := h.cell 2
  have z1 := h.frozen 1
  go_enter Try.func61, Try.ntmps61
  go_wp2
  go_ret
  exact ⟨rfl, by simp⟩

set_option maxRecDepth 100000 in
theorem step_err (O n c : Nat) (k m er : Int) (A : Option Addr) (w : World) (h : Rfr w O A n c k 0) (her : ¬ er = 0) :
    Calls Try.prog 61 #[.pointer (some ⟨O, 0, none⟩), .int .i64 m, .int .i64 er] w fun e w' => e = .returned (.bool false) ∧ w' = w.setCell ⟨O, 2, none⟩ (.int .i64 er) := by
  have c2 : w.cell? ⟨O, 2, none⟩ = some (.int .i64 0) := h.cell 2
  have z2 := h.frozen 2
  go_enter Try.func61, Try.ntmps61
  go_wp2
  go_ret
  exact ⟨rfl, rfl⟩

set_option maxRecDepth 100000 in
theorem step_had (O n c : Nat) (k m er0 er : Int) (A : Option Addr) (w : World) (h : Rfr w O A n c k er0) (her : ¬ er0 = 0) :
    Calls Try.prog 61 #[.pointer (some ⟨O, 0, none⟩), .int .i64 m, .int .i64 er] w fun e w' => e = .returned (.bool false) ∧ w' = w := by
  have c2 : w.cell? ⟨O, 2, none⟩ = some (.int .i64 er0) := h.cell 2
  go_enter Try.func61, Try.ntmps61
  go_wp2
  go_ret
  exact ⟨rfl, rfl⟩

set_option maxRecDepth 100000 in
theorem refdone_any (O : Nat) (A : Option Addr) (n c : Nat) (at_ er : Int) (w : World) (h : Rfr w O A n c at_ er) :
    Calls Try.prog 36 #[.pointer (some ⟨O, 0, none⟩)] w fun e w' => e = .returned (.int .i64 (doneOf n at_ er)) ∧ ∃ m, w' = w.drewN m := by
  have c0 : w.cell? ⟨O, 0, none⟩ = some (.slice A n c) := h.cell 0
  have c1 : w.cell? ⟨O, 1, none⟩ = some (.int .i64 at_) := h.cell 1
  have c2 : w.cell? ⟨O, 2, none⟩ = some (.int .i64 er) := h.cell 2
  go_enter Try.func36, Try.ntmps36
  by_cases h0 : er = 0
  · subst h0
    by_cases hlt : at_ < n
    · have e1 := hide (show doneOf n at_ 0 = 22 by simp [doneOf, hlt])
      go_wp2
      go_quiet (fail)
      go_wp2
      go_ret
      exact ⟨by rw [e1.out]; rfl, nq, rfl⟩
    · have e1 := hide (show doneOf n at_ 0 = 0 by simp [doneOf, hlt])
      go_wp2
      go_quiet (fail)
      have d2 : (w.drewN nq).cell? ⟨O, 2, none⟩ = some (.int .i64 0) := c2
      go_wp2
      go_ret
      exact ⟨by rw [e1.out]; rfl, nq, rfl⟩
  · have e1 := hide (show doneOf n at_ er = er by simp [doneOf, h0])
    have herb : (er == 0) = false := by simpa using h0
    go_wp2
    go_quiet (fail)
    have d2 : (w.drewN nq).cell? ⟨O, 2, none⟩ = some (.int .i64 er) := c2
    go_wp2
    go_ret
    exact ⟨by rw [e1.out]; rfl, nq, rfl⟩


set_option maxRecDepth 100000 in
set_option maxHeartbeats 1000000 in
theorem refrd_u (O n c k : Nat) (er : Int) (A : Option Addr) (ks : List UInt8) (w : World) (h : Rfr w O A n c (k : Int) er) (hb : Bs w O A n c ks) (hk : k ≤ n) :
    Calls Try.prog 24 #[.pointer (some ⟨O, 0, none⟩)] w (WentR w O A n c (fun v _ => v = .int .u64 ((nxt 0 (readU (ks.drop k)) k er).1 : Int)) (nxt 0 (readU (ks.drop k)) k er).2.1 (nxt 0 (readU (ks.drop k)) k er).2.2) := by
  have hreach := hb.reach
  have hlen := hb.len
  have hOl := h.lt
  have c0 : w.cell? ⟨O, 0, none⟩ = some (.slice A n c) := h.cell 0
  have c1 : w.cell? ⟨O, 1, none⟩ = some (.int .i64 (k : Int)) := h.cell 1
  have hcut := run_cut (P := Try.prog) 24 5 Try.underlying24 (fun w => by simp [go_sem]) A n c .i64 (k : Int) (by omega) (by omega)
  simp only [Int.toNat_natCast] at hcut
  have G := hide (refreadu_any (ks.drop k) _ _ _ O w.drew ((hb.below (below_drew w |>.mono (by omega))).cut k))
  have hlen' := hide hlen
  clear hlen
  go_enter Try.func24, Try.ntmps24
  go_wp2
  cases hu : readU (ks.drop k) with
  | ok p =>
    obtain ⟨v, m⟩ := p
    have hm := readU_len hu
    rw [List.length_drop, hlen'.out] at hm
    rw [hu] at G
    go_region_held3 (fun W => W.cell? ⟨O, 0, none⟩ = some (.slice A n c) ∧ W.cell? ⟨O, 1, none⟩ = some (.int .i64 (k : Int)))
      (first | exact ⟨c0, c1⟩ | exact Q1)
      (first | (go_at_call 40; refine Calls.mono G.out ?_; rintro e w1 ⟨rfl, ew⟩; have hB1 : Below w.drew.heap.size w.drew w1 := by (subst ew; exact Below.refl _ _)
                clear ew
                have Q1 : w1.cell? ⟨O, 0, none⟩ = some (.slice A n c) ∧ w1.cell? ⟨O, 1, none⟩ = some (.int .i64 (k : Int)) := ⟨(hB1.cell (p := ⟨O, 0, none⟩) hOl).trans c0, (hB1.cell (p := ⟨O, 1, none⟩) hOl).trans c1⟩))
    all_goals
      have hBw : Below w.heap.size w w1 := (below_drew w).trans hB1
      have h1 := h.below hBw hOl
      by_cases h0 : er = 0
      · subst h0
        go_wp2_with fail
        refine (step_ok O n c k m A w1 h1 (by omega)).mono ?_
        rintro e w2 ⟨rfl, rfl⟩
        go_wp2
        go_ret
        rw [hu, nxt_ok]
        exact ⟨grown_set (grown_of_below hBw _) (.inl rfl) _, h1.setA _, _, rfl, rfl⟩
      · go_wp2_with fail
        refine (step_had O n c (k : Int) _ er _ A w1 h1 h0).mono ?_
        rintro e w2 ⟨rfl, rfl⟩
        go_wp2
        go_ret
        rw [nxt_had _ _ _ _ h0]
        exact ⟨grown_of_below hBw _, h1, _, rfl, rfl⟩
  | error er' =>
    have her := readU_err hu
    rw [hu] at G
    go_region_held3 (fun W => W.cell? ⟨O, 0, none⟩ = some (.slice A n c) ∧ W.cell? ⟨O, 1, none⟩ = some (.int .i64 (k : Int)))
      (first | exact ⟨c0, c1⟩ | exact Q1)
      (first | (go_at_call 40; refine Calls.mono G.out ?_; rintro e w1 ⟨rfl, ew⟩; have hB1 : Below w.drew.heap.size w.drew w1 := by (subst ew; exact Below.refl _ _)
                clear ew
                have Q1 : w1.cell? ⟨O, 0, none⟩ = some (.slice A n c) ∧ w1.cell? ⟨O, 1, none⟩ = some (.int .i64 (k : Int)) := ⟨(hB1.cell (p := ⟨O, 0, none⟩) hOl).trans c0, (hB1.cell (p := ⟨O, 1, none⟩) hOl).trans c1⟩))
    all_goals
      have hBw : Below w.heap.size w w1 := (below_drew w).trans hB1
      have h1 := h.below hBw hOl
      by_cases h0 : er = 0
      · subst h0
        go_wp2_with fail
        refine (step_err O n c (k : Int) 0 er' A w1 h1 (by omega)).mono ?_
        rintro e w2 ⟨rfl, rfl⟩
        go_wp2
        go_ret
        rw [hu, nxt_err]
        exact ⟨grown_set (grown_of_below hBw _) (.inl rfl) _, h1.setE _, _, rfl, rfl⟩
      · go_wp2_with fail
        refine (step_had O n c (k : Int) _ er _ A w1 h1 h0).mono ?_
        rintro e w2 ⟨rfl, rfl⟩
        go_wp2
        go_ret
        rw [nxt_had _ _ _ _ h0]
        exact ⟨grown_of_below hBw _, h1, _, rfl, rfl⟩

set_option maxRecDepth 100000 in
set_option maxHeartbeats 1000000 in
theorem refrd_i (O n c k : Nat) (er : Int) (A : Option Addr) (ks : List UInt8) (w : World) (h : Rfr w O A n c (k : Int) er) (hb : Bs w O A n c ks) (hk : k ≤ n) :
    Calls Try.prog 26 #[.pointer (some ⟨O, 0, none⟩)] w (WentR w O A n c (fun v _ => v = .int .i64 (nxt 0 (readI (ks.drop k)) k er).1) (nxt 0 (readI (ks.drop k)) k er).2.1 (nxt 0 (readI (ks.drop k)) k er).2.2) := by
  have hreach := hb.reach
  have hlen := hb.len
  have hOl := h.lt
  have c0 : w.cell? ⟨O, 0, none⟩ = some (.slice A n c) := h.cell 0
  have c1 : w.cell? ⟨O, 1, none⟩ = some (.int .i64 (k : Int)) := h.cell 1
  have hcut := run_cut (P := Try.prog) 24 5 Try.underlying24 (fun w => by simp [go_sem]) A n c .i64 (k : Int) (by omega) (by omega)
  simp only [Int.toNat_natCast] at hcut
  have G := hide (refreadi_any (ks.drop k) _ _ _ O w.drew ((hb.below (below_drew w |>.mono (by omega))).cut k))
  have hlen' := hide hlen
  clear hlen
  go_enter Try.func26, Try.ntmps26
  go_wp2
  cases hu : readI (ks.drop k) with
  | ok p =>
    obtain ⟨v, m⟩ := p
    have hm := readI_len hu
    rw [List.length_drop, hlen'.out] at hm
    rw [hu] at G
    go_region_held3 (fun W => W.cell? ⟨O, 0, none⟩ = some (.slice A n c) ∧ W.cell? ⟨O, 1, none⟩ = some (.int .i64 (k : Int)))
      (first | exact ⟨c0, c1⟩ | exact Q1)
      (first | (go_at_call 41; refine Calls.mono G.out ?_; rintro e w1 ⟨rfl, ew⟩; have hB1 : Below w.drew.heap.size w.drew w1 := by (subst ew; exact Below.refl _ _)
                clear ew
                have Q1 : w1.cell? ⟨O, 0, none⟩ = some (.slice A n c) ∧ w1.cell? ⟨O, 1, none⟩ = some (.int .i64 (k : Int)) := ⟨(hB1.cell (p := ⟨O, 0, none⟩) hOl).trans c0, (hB1.cell (p := ⟨O, 1, none⟩) hOl).trans c1⟩))
    all_goals
      have hBw : Below w.heap.size w w1 := (below_drew w).trans hB1
      have h1 := h.below hBw hOl
      by_cases h0 : er = 0
      · subst h0
        go_wp2_with fail
        refine (step_ok O n c k m A w1 h1 (by omega)).mono ?_
        rintro e w2 ⟨rfl, rfl⟩
        go_wp2
        go_ret
        rw [hu, nxt_ok]
        exact ⟨grown_set (grown_of_below hBw _) (.inl rfl) _, h1.setA _, _, rfl, rfl⟩
      · go_wp2_with fail
        refine (step_had O n c (k : Int) _ er _ A w1 h1 h0).mono ?_
        rintro e w2 ⟨rfl, rfl⟩
        go_wp2
        go_ret
        rw [nxt_had _ _ _ _ h0]
        exact ⟨grown_of_below hBw _, h1, _, rfl, rfl⟩
  | error er' =>
    have her := readI_err hu
    rw [hu] at G
    go_region_held3 (fun W => W.cell? ⟨O, 0, none⟩ = some (.slice A n c) ∧ W.cell? ⟨O, 1, none⟩ = some (.int .i64 (k : Int)))
      (first | exact ⟨c0, c1⟩ | exact Q1)
      (first | (go_at_call 41; refine Calls.mono G.out ?_; rintro e w1 ⟨rfl, ew⟩; have hB1 : Below w.drew.heap.size w.drew w1 := by (subst ew; exact Below.refl _ _)
                clear ew
                have Q1 : w1.cell? ⟨O, 0, none⟩ = some (.slice A n c) ∧ w1.cell? ⟨O, 1, none⟩ = some (.int .i64 (k : Int)) := ⟨(hB1.cell (p := ⟨O, 0, none⟩) hOl).trans c0, (hB1.cell (p := ⟨O, 1, none⟩) hOl).trans c1⟩))
    all_goals
      have hBw : Below w.heap.size w w1 := (below_drew w).trans hB1
      have h1 := h.below hBw hOl
      by_cases h0 : er = 0
      · subst h0
        go_wp2_with fail
        refine (step_err O n c (k : Int) 0 er' A w1 h1 (by omega)).mono ?_
        rintro e w2 ⟨rfl, rfl⟩
        go_wp2
        go_ret
        rw [hu, nxt_err]
        exact ⟨grown_set (grown_of_below hBw _) (.inl rfl) _, h1.setE _, _, rfl, rfl⟩
      · go_wp2_with fail
        refine (step_had O n c (k : Int) _ er _ A w1 h1 h0).mono ?_
        rintro e w2 ⟨rfl, rfl⟩
        go_wp2
        go_ret
        rw [nxt_had _ _ _ _ h0]
        exact ⟨grown_of_below hBw _, h1, _, rfl, rfl⟩

set_option maxRecDepth 100000 in
set_option maxHeartbeats 1000000 in
theorem refrd_x (O n c k : Nat) (er : Int) (wide : Int) (A : Option Addr) (ks : List UInt8) (w : World) (hw0 : -9223372036854775808 ≤ wide) (hw1 : wide ≤ 9223372036854775807) (h : Rfr w O A n c (k : Int) er) (hb : Bs w O A n c ks) (hk : k ≤ n) :
    Calls Try.prog 28 #[.pointer (some ⟨O, 0, none⟩), .int .i64 wide] w (WentR w O A n c (fun v _ => v = .int .u64 ((nxt 0 (readX (ks.drop k) wide) k er).1 : Int)) (nxt 0 (readX (ks.drop k) wide) k er).2.1 (nxt 0 (readX (ks.drop k) wide) k er).2.2) := by
  have hreach := hb.reach
  have hlen := hb.len
  have hOl := h.lt
  have c0 : w.cell? ⟨O, 0, none⟩ = some (.slice A n c) := h.cell 0
  have c1 : w.cell? ⟨O, 1, none⟩ = some (.int .i64 (k : Int)) := h.cell 1
  have hcut := run_cut (P := Try.prog) 24 5 Try.underlying24 (fun w => by simp [go_sem]) A n c .i64 (k : Int) (by omega) (by omega)
  simp only [Int.toNat_natCast] at hcut
  have G := hide (refreadx_any (ks.drop k) wide _ _ _ O w.drew ((hb.below (below_drew w |>.mono (by omega))).cut k) hw0 hw1)
  have hlen' := hide hlen
  clear hlen
  go_enter Try.func28, Try.ntmps28
  go_wp2
  cases hu : readX (ks.drop k) wide with
  | ok p =>
    obtain ⟨v, m⟩ := p
    have hm := readX_len hu
    rw [List.length_drop, hlen'.out] at hm
    rw [hu] at G
    go_region_held3 (fun W => W.cell? ⟨O, 0, none⟩ = some (.slice A n c) ∧ W.cell? ⟨O, 1, none⟩ = some (.int .i64 (k : Int)))
      (first | exact ⟨c0, c1⟩ | exact Q1)
      (first | (go_at_call 43; refine Calls.mono G.out ?_; rintro e w1 ⟨rfl, ew⟩; have hB1 : Below w.drew.heap.size w.drew w1 := by (subst ew; exact Below.refl _ _)
                clear ew
                have Q1 : w1.cell? ⟨O, 0, none⟩ = some (.slice A n c) ∧ w1.cell? ⟨O, 1, none⟩ = some (.int .i64 (k : Int)) := ⟨(hB1.cell (p := ⟨O, 0, none⟩) hOl).trans c0, (hB1.cell (p := ⟨O, 1, none⟩) hOl).trans c1⟩))
    all_goals
      have hBw : Below w.heap.size w w1 := (below_drew w).trans hB1
      have h1 := h.below hBw hOl
      by_cases h0 : er = 0
      · subst h0
        go_wp2_with fail
        refine (step_ok O n c k m A w1 h1 (by omega)).mono ?_
        rintro e w2 ⟨rfl, rfl⟩
        go_wp2
        go_ret
        rw [hu, nxt_ok]
        exact ⟨grown_set (grown_of_below hBw _) (.inl rfl) _, h1.setA _, _, rfl, rfl⟩
      · go_wp2_with fail
        refine (step_had O n c (k : Int) _ er _ A w1 h1 h0).mono ?_
        rintro e w2 ⟨rfl, rfl⟩
        go_wp2
        go_ret
        rw [nxt_had _ _ _ _ h0]
        exact ⟨grown_of_below hBw _, h1, _, rfl, rfl⟩
  | error er' =>
    have her := readX_err hu
    rw [hu] at G
    go_region_held3 (fun W => W.cell? ⟨O, 0, none⟩ = some (.slice A n c) ∧ W.cell? ⟨O, 1, none⟩ = some (.int .i64 (k : Int)))
      (first | exact ⟨c0, c1⟩ | exact Q1)
      (first | (go_at_call 43; refine Calls.mono G.out ?_; rintro e w1 ⟨rfl, ew⟩; have hB1 : Below w.drew.heap.size w.drew w1 := by (subst ew; exact Below.refl _ _)
                clear ew
                have Q1 : w1.cell? ⟨O, 0, none⟩ = some (.slice A n c) ∧ w1.cell? ⟨O, 1, none⟩ = some (.int .i64 (k : Int)) := ⟨(hB1.cell (p := ⟨O, 0, none⟩) hOl).trans c0, (hB1.cell (p := ⟨O, 1, none⟩) hOl).trans c1⟩))
    all_goals
      have hBw : Below w.heap.size w w1 := (below_drew w).trans hB1
      have h1 := h.below hBw hOl
      by_cases h0 : er = 0
      · subst h0
        go_wp2_with fail
        refine (step_err O n c (k : Int) 0 er' A w1 h1 (by omega)).mono ?_
        rintro e w2 ⟨rfl, rfl⟩
        go_wp2
        go_ret
        rw [hu, nxt_err]
        exact ⟨grown_set (grown_of_below hBw _) (.inl rfl) _, h1.setE _, _, rfl, rfl⟩
      · go_wp2_with fail
        refine (step_had O n c (k : Int) _ er _ A w1 h1 h0).mono ?_
        rintro e w2 ⟨rfl, rfl⟩
        go_wp2
        go_ret
        rw [nxt_had _ _ _ _ h0]
        exact ⟨grown_of_below hBw _, h1, _, rfl, rfl⟩

set_option maxRecDepth 100000 in
set_option maxHeartbeats 1000000 in
theorem refrd_f (O n c k : Nat) (er : Int) (A : Option Addr) (ks : List UInt8) (w : World) (h : Rfr w O A n c (k : Int) er) (hb : Bs w O A n c ks) (hk : k ≤ n) :
    Calls Try.prog 30 #[.pointer (some ⟨O, 0, none⟩)] w (WentR w O A n c (fun v W => Mine 5 W w.heap.size v (nxt [] (readF (ks.drop k)) k er).1) (nxt [] (readF (ks.drop k)) k er).2.1 (nxt [] (readF (ks.drop k)) k er).2.2) := by
  have hreach := hb.reach
  have hlen := hb.len
  have hOl := h.lt
  have c0 : w.cell? ⟨O, 0, none⟩ = some (.slice A n c) := h.cell 0
  have c1 : w.cell? ⟨O, 1, none⟩ = some (.int .i64 (k : Int)) := h.cell 1
  have hcut := run_cut (P := Try.prog) 24 5 Try.underlying24 (fun w => by simp [go_sem]) A n c .i64 (k : Int) (by omega) (by omega)
  simp only [Int.toNat_natCast] at hcut
  have G := hide (refreadf_any (ks.drop k) _ _ _ O w.drew ((hb.below (below_drew w |>.mono (by omega))).cut k) (by have : w.drew.heap.size = w.heap.size := rfl; omega))
  have hlen' := hide hlen
  clear hlen
  go_enter Try.func30, Try.ntmps30
  go_wp2
  cases hu : readF (ks.drop k) with
  | ok p =>
    obtain ⟨v, m⟩ := p
    have hm := (readF_len hu).1
    rw [List.length_drop, hlen'.out] at hm
    rw [hu] at G
    go_region_held3 (fun W => W.cell? ⟨O, 0, none⟩ = some (.slice A n c) ∧ W.cell? ⟨O, 1, none⟩ = some (.int .i64 (k : Int)))
      (first | exact ⟨c0, c1⟩ | exact Q1)
      (first | (go_at_call 44; refine Calls.mono G.out ?_; rintro e w1 ⟨⟨v1, rfl, hm1⟩, hB1⟩; obtain ⟨X, q, qc, rfl⟩ := mine_shape hm1
                have Q1 : w1.cell? ⟨O, 0, none⟩ = some (.slice A n c) ∧ w1.cell? ⟨O, 1, none⟩ = some (.int .i64 (k : Int)) := ⟨(hB1.cell (p := ⟨O, 0, none⟩) hOl).trans c0, (hB1.cell (p := ⟨O, 1, none⟩) hOl).trans c1⟩))
    all_goals
      have hBw : Below w.heap.size w w1 := (below_drew w).trans hB1
      have h1 := h.below hBw hOl
      by_cases h0 : er = 0
      · subst h0
        go_wp2_with fail
        refine (step_ok O n c k m A w1 h1 (by omega)).mono ?_
        rintro e w2 ⟨rfl, rfl⟩
        go_wp2
        go_ret
        rw [hu, nxt_ok]
        exact ⟨grown_set (grown_of_below hBw _) (.inl rfl) _, h1.setA _, _, rfl, Mine.setCell (p := ⟨O, 1, none⟩) (show Mine 5 w1 w.heap.size _ _ from hm1) hOl _⟩
      · go_wp2_with fail
        refine (step_had O n c (k : Int) _ er _ A w1 h1 h0).mono ?_
        rintro e w2 ⟨rfl, rfl⟩
        go_wp2
        go_ret
        rw [nxt_had _ _ _ _ h0]
        exact ⟨grown_of_below hBw _, h1, _, rfl, Mine.nil _ _ _⟩
  | error er' =>
    have her := readF_err hu
    rw [hu] at G
    go_region_held3 (fun W => W.cell? ⟨O, 0, none⟩ = some (.slice A n c) ∧ W.cell? ⟨O, 1, none⟩ = some (.int .i64 (k : Int)))
      (first | exact ⟨c0, c1⟩ | exact Q1)
      (first | (go_at_call 44; refine Calls.mono G.out ?_; rintro e w1 ⟨rfl, hB1⟩
                have Q1 : w1.cell? ⟨O, 0, none⟩ = some (.slice A n c) ∧ w1.cell? ⟨O, 1, none⟩ = some (.int .i64 (k : Int)) := ⟨(hB1.cell (p := ⟨O, 0, none⟩) hOl).trans c0, (hB1.cell (p := ⟨O, 1, none⟩) hOl).trans c1⟩))
    all_goals
      have hBw : Below w.heap.size w w1 := (below_drew w).trans hB1
      have h1 := h.below hBw hOl
      by_cases h0 : er = 0
      · subst h0
        go_wp2_with fail
        refine (step_err O n c (k : Int) 0 er' A w1 h1 (by omega)).mono ?_
        rintro e w2 ⟨rfl, rfl⟩
        go_wp2
        go_ret
        rw [hu, nxt_err]
        exact ⟨grown_set (grown_of_below hBw _) (.inl rfl) _, h1.setE _, _, rfl, Mine.nil _ _ _⟩
      · go_wp2_with fail
        refine (step_had O n c (k : Int) _ er _ A w1 h1 h0).mono ?_
        rintro e w2 ⟨rfl, rfl⟩
        go_wp2
        go_ret
        rw [nxt_had _ _ _ _ h0]
        exact ⟨grown_of_below hBw _, h1, _, rfl, Mine.nil _ _ _⟩

set_option maxRecDepth 100000 in
set_option maxHeartbeats 1000000 in
theorem refrd_t (O n c k : Nat) (er : Int) (N : Int) (A : Option Addr) (ks : List UInt8) (w : World) (hw0 : -9223372036854775808 ≤ N) (hw1 : N ≤ 9223372036854775807) (h : Rfr w O A n c (k : Int) er) (hb : Bs w O A n c ks) (hk : k ≤ n) :
    Calls Try.prog 32 #[.pointer (some ⟨O, 0, none⟩), .int .i64 N] w (WentR w O A n c (fun v W => Mine 5 W w.heap.size v (nxt [] (readT (ks.drop k) N) k er).1) (nxt [] (readT (ks.drop k) N) k er).2.1 (nxt [] (readT (ks.drop k) N) k er).2.2) := by
  have hreach := hb.reach
  have hlen := hb.len
  have hcap := hb.cap
  have hOl := h.lt
  have c0 : w.cell? ⟨O, 0, none⟩ = some (.slice A n c) := h.cell 0
  have c1 : w.cell? ⟨O, 1, none⟩ = some (.int .i64 (k : Int)) := h.cell 1
  by_cases hN : N < 0
  · have hT : readT (ks.drop k) N = .error 1 := by unfold readT; rw [if_pos hN]
    rw [hT]
    clear hlen hT
    go_enter Try.func32, Try.ntmps32
    by_cases h0 : er = 0
    · subst h0
      go_wp2_with fail
      refine (step_err O n c (k : Int) N 1 A w h (by omega)).mono ?_
      rintro e w2 ⟨rfl, rfl⟩
      go_wp2
      go_ret
      rw [nxt_err]
      exact ⟨grown_set (World.grownBy.refl _ _) (.inl rfl) _, h.setE _, _, rfl, Mine.nil _ _ _⟩
    · go_wp2_with fail
      refine (step_had O n c (k : Int) N er 1 A w h h0).mono ?_
      rintro e w2 ⟨rfl, rfl⟩
      go_wp2
      go_ret
      rw [nxt_had _ _ _ _ h0]
      exact ⟨World.grownBy.refl _ _, h, _, rfl, Mine.nil _ _ _⟩
  · obtain ⟨m, rfl⟩ : ∃ m : Nat, N = (m : Int) := ⟨N.toNat, by omega⟩
    by_cases hlt : n - k < m
    · have hT : readT (ks.drop k) m = .error 20 := by unfold readT; rw [if_neg hN, List.length_drop, hlen, if_pos (by omega)]
      rw [hT]
      have hgt : (n : Int) - (k : Int) < (m : Int) := by omega
      clear hlen hT
      go_enter Try.func32, Try.ntmps32
      go_wp2
      go_quiet (fail)
      have c1' : (w.drewN nq).cell? ⟨O, 1, none⟩ = some (.int .i64 (k : Int)) := c1
      have h' : Rfr (w.drewN nq) O A n c (k : Int) er := h
      have hBq : Below w.heap.size w (w.drewN nq) := Below.drewN' (Below.refl _ w) nq
      generalize w.drewN nq = w1 at *
      by_cases h0 : er = 0
      · subst h0
        go_wp2_with fail
        refine (step_err O n c (k : Int) m 20 A w1 h' (by omega)).mono ?_
        rintro e w2 ⟨rfl, rfl⟩
        go_wp2
        go_ret
        rw [nxt_err]
        exact ⟨grown_set (grown_of_below hBq _) (.inl rfl) _, h'.setE _, _, rfl, Mine.nil _ _ _⟩
      · go_wp2_with fail
        refine (step_had O n c (k : Int) m er 20 A w1 h' h0).mono ?_
        rintro e w2 ⟨rfl, rfl⟩
        go_wp2
        go_ret
        rw [nxt_had _ _ _ _ h0]
        exact ⟨grown_of_below hBq _, h', _, rfl, Mine.nil _ _ _⟩
    · have hT : readT (ks.drop k) m = .ok ((ks.drop k).take m, m) := by unfold readT; rw [if_neg hN, List.length_drop, hlen, if_neg (by omega), Int.toNat_natCast]
      rw [hT]
      have hgt : ¬ (n : Int) - (k : Int) < (m : Int) := by omega
      have hcut := run_cut2 (P := Try.prog) 24 5 Try.underlying24 (fun w => by simp [go_sem]) A n c .i64 .i64 (k : Int) ((k : Int) + (m : Int)) (by omega) (by omega) (by omega)
      have e1 : ((k : Int) + (m : Int)).toNat - ((k : Int)).toNat = m := by omega
      rw [e1, Int.toNat_natCast] at hcut
      have hlenX : ((ks.drop k).take m).length = m := by rw [List.length_take, List.length_drop, hlen]; omega
      have HX := hide hlenX
      clear hlen hT e1 hlenX
      go_enter Try.func32, Try.ntmps32
      go_wp2
      go_quiet (fail)
      have c1' : (w.drewN nq).cell? ⟨O, 1, none⟩ = some (.int .i64 (k : Int)) := c1
      have h' : Rfr (w.drewN nq) O A n c (k : Int) er := h
      have hBq : Below w.heap.size w (w.drewN nq) := Below.drewN' (Below.refl _ w) nq
      generalize w.drewN nq = w1 at *
      by_cases h0 : er = 0
      · subst h0
        go_wp2_with fail
        refine (step_ok O n c k m A w1 h' (by omega)).mono ?_
        rintro e w2 ⟨rfl, rfl⟩
        have h2 := h'.setA ((k + m : Nat) : Int)
        have hB2 : Below O w1 (w1.setCell ⟨O, 1, none⟩ (.int .i64 ((k + m : Nat) : Int))) := (Below.refl O w1).setCell (p := ⟨O, 1, none⟩) (Nat.le_refl _) _
        have hg2 := grown_set (grown_of_below hBq (some O)) (p := ⟨O, 1, none⟩) (.inl rfl) (.int .i64 ((k + m : Nat) : Int))
        generalize w1.setCell ⟨O, 1, none⟩ (.int .i64 ((k + m : Nat) : Int)) = W2 at *
        have hOl2 := h2.lt
        have hsz2 := hg2.size
        have hb2 := (((hb.below (hBq.mono (by omega))).below hB2).cut k).take (k := m) (by omega)
        obtain ⟨v', w3, hrun, hm3, hg, _⟩ := append_mine (P := Try.prog) 24 Try.underlying24 info5 (Mine.made 5 W2 (Nat.le_refl _)) (by simp) (hb2.alloc (by omega) (.cells #[] 5)) (by simp; omega)
        have hBl : Below W2.heap.size W2 w3 := ((Below.refl _ W2).alloc (Nat.le_refl _) _).trans ((Mine.made 5 W2 (Nat.le_refl _)).grown hg (Nat.le_refl _) (by simp))
        have d0 : (W2.alloc (.cells #[] 5)).cell? ⟨O, 0, none⟩ = some (.slice A n c) := (h2.alloc (.cells #[] 5)).cell 0
        go_wp2_with (at_builtin; refine wpList_append_run rfl _ _ 24 rfl _ _ _ rfl rfl hrun ?_)
        go_wp2
        go_ret
        rw [nxt_ok]
        exact ⟨⟨hBl.os.trans hg2.os, hBl.tape.trans hg2.tape, hBl.output.trans hg2.output, Nat.le_trans hg2.size hBl.size, fun j hj hn => (hBl.block j (by omega)).trans (hg2.block j hj hn)⟩, h2.below hBl hOl2, v', rfl, by simpa using hm3.mono hsz2⟩
      · go_wp2_with fail
        refine (step_had O n c (k : Int) m er 0 A w1 h' h0).mono ?_
        rintro e w2 ⟨rfl, rfl⟩
        go_wp2
        go_ret
        rw [nxt_had _ _ _ _ h0]
        exact ⟨grown_of_below hBq _, h', _, rfl, Mine.nil _ _ _⟩

end Go.Proofs.Ytdlbhppoknbnlaa
