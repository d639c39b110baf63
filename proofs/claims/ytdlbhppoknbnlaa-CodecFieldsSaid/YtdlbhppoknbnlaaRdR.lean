/-
  The walks of the reader's Int, Fixed, Field and Take. Condition: the reader's bytes read as such, in a block below the reader's.
-/
import Derived.Test.YtdlbhppoknbnlaaFixR
import Derived.Test.YtdlbhppoknbnlaaNumbers
namespace Go.Proofs.Ytdlbhppoknbnlaa
open Go.RowKit

/-- reading on: the value, where it stands, the error -/
def nxt {α : Type} (zero : α) (r : Except Int (α × Nat)) (k : Nat) (er : Int) : α × Nat × Int :=
  if er ≠ 0 then (zero, k, er) else match r with
    | .ok (v, m) => (v, k + m, 0)
    | .error c => (zero, k, c)
theorem nxt_ok {α : Type} (zero v : α) (m k : Nat) : nxt zero (.ok (v, m)) k 0 = (v, k + m, 0) := by simp [nxt]
theorem nxt_err {α : Type} (zero : α) (c : Int) (k : Nat) : nxt zero (.error c) k 0 = (zero, k, c) := by simp [nxt]
theorem nxt_had {α : Type} (zero : α) (r : Except Int (α × Nat)) (k : Nat) (er : Int) (h : ¬ er = 0) : nxt zero r k er = (zero, k, er) := by simp [nxt, h]
theorem nxtU_nxt (ks : List UInt8) (k : Nat) (er : Int) : nxtU ks k er = nxt 0 (readU (ks.drop k)) k er := by
  unfold nxtU nxt
  cases readU (ks.drop k) <;> rfl

theorem readI_len {b : List UInt8} {i : Int} {m : Nat} (h : readI b = .ok (i, m)) : m ≤ b.length := (readI_once h).2.1
theorem readX_len {b : List UInt8} {wide : Int} {x m : Nat} (h : readX b wide = .ok (x, m)) : m ≤ b.length := by
  unfold readX at h
  split at h
  · simp at h
  · split at h
    · simp at h
    · simp only [Except.ok.injEq, Prod.mk.injEq] at h
      omega

/-- Take, in plain Lean -/
def readT (b : List UInt8) (N : Int) : Except Int (List UInt8 × Nat) :=
  if N < 0 then .error 1 else if (b.length : Int) < N then .error 20 else .ok (b.take N.toNat, N.toNat)
theorem readT_err {b : List UInt8} {N c : Int} (h : readT b N = .error c) : c = 1 ∨ c = 20 := by
  unfold readT at h
  split at h
  · simp at h; omega
  · split at h
    · simp at h; omega
    · simp at h
theorem readT_len {b f : List UInt8} {N : Int} {m : Nat} (h : readT b N = .ok (f, m)) : m ≤ b.length ∧ f.length ≤ b.length := by
  unfold readT at h
  split at h
  · simp at h
  · split at h
    · simp at h
    · simp only [Except.ok.injEq, Prod.mk.injEq] at h
      obtain ⟨rfl, rfl⟩ := h
      simp
      omega

theorem grown_alloc {w w' : World} {r : Option Nat} (o : Obj) (h : (w.alloc o).grownBy w' r) : w.grownBy w' r :=
  ⟨h.os, h.tape, h.output, by have := h.size; simp at this; omega, fun k hk hn => (h.block k (by simp; omega) hn).trans (Below.heap_alloc w o k hk)⟩

set_option maxRecDepth 100000 in
theorem fixedClos (b : List UInt8) (wide : Int) (A : Option Addr) (n c B H : Nat) (w : World) (h : Bs w B A n c b) (h0 : -9223372036854775808 ≤ wide) (h1 : wide ≤ 9223372036854775807) (hc : w.cell? ⟨H, 0, none⟩ = some (.int .i64 wide)) :
    Calls Try.prog 63 #[.slice A n c, .pointer (some ⟨H, 0, none⟩)] w fun e w' => Tells (readX b wide) e ∧ w = w' := by
  go_enter Try.func63, Try.ntmps63
  go_wp2_with fail
  refine (readFixed_any b wide A n c B w h h0 h1).mono ?_
  rintro e w1 ⟨ht, rfl⟩
  unfold Tells at ht
  split at ht
  · rename_i v k hr
    subst ht
    go_wp2
    go_ret2
    exact ⟨by rw [hr]; rfl, rfl⟩
  · rename_i c' hr
    subst ht
    exact ⟨rfl, by rw [hr]; rfl, rfl⟩

/-- what the thrower tells -/
def TellsT (w : World) (r : Except Int (List UInt8 × Nat)) (e : Ending) (w' : World) : Prop :=
  Below w.heap.size w w' ∧ match r with
    | .ok (f, k) => ∃ v, e = .returned (.tuple #[v, .int .i64 (k : Int)]) ∧ Mine 5 w' w.heap.size v f
    | .error c => e = .panicked (failure c)

set_option maxRecDepth 100000 in
theorem takeClos (b : List UInt8) (N : Int) (A : Option Addr) (n c B H : Nat) (w : World) (h : Bs w B A n c b) (hB : B ≤ w.heap.size) (h0 : -9223372036854775808 ≤ N) (h1 : N ≤ 9223372036854775807) (hc : w.cell? ⟨H, 0, none⟩ = some (.int .i64 N)) (hH : H < w.heap.size) :
    Calls Try.prog 66 #[.slice A n c, .pointer (some ⟨H, 0, none⟩)] w (TellsT w (readT b N)) := by
  have hr := h.reach
  have hcap := h.cap
  have hlen := h.len
  by_cases hN : N < 0
  · have hT := hide (show readT b N = .error 1 by unfold readT; rw [if_pos hN])
    go_enter Try.func66, Try.ntmps66
    go_wp2_with fail
    rw [decide_eq_false (show ¬ (0 : Int) ≤ N by omega)]
    refine (must_false _ _).mono ?_
    rintro e w1 ⟨rfl, rfl⟩
    refine ⟨rfl, ?_⟩
    rw [hT.out]
    exact ⟨Below.refl _ _, rfl⟩
  · obtain ⟨m, rfl⟩ : ∃ m : Nat, N = (m : Int) := ⟨N.toNat, by omega⟩
    have hN' : (0 : Int) ≤ (m : Int) := by omega
    by_cases hlt : n < m
    · have hT := hide (show readT b m = .error 20 by unfold readT; rw [if_neg hN, hlen, if_pos (by omega)])
      go_enter Try.func66, Try.ntmps66
      go_wp2_with fail
      refine (must_true _ _).mono ?_
      rintro e w1 ⟨rfl, rfl⟩
      go_wp2_with fail
      rw [decide_eq_false (show ¬ m ≤ n by omega)]
      refine (must_false _ _).mono ?_
      rintro e w1 ⟨rfl, rfl⟩
      refine ⟨rfl, ?_⟩
      rw [hT.out]
      exact ⟨Below.refl _ _, rfl⟩
    · have hT := hide (show readT b m = .ok (b.take m, m) by unfold readT; rw [if_neg hN, hlen, if_neg (by omega), Int.toNat_natCast])
      have hle : (m : Int) ≤ (n : Int) := by omega
      have hct := run_cutTo (P := Try.prog) 24 5 Try.underlying24 (fun w => by simp [go_sem]) A n c .i64 (m : Int) (by omega) (by omega)
      simp only [Int.toNat_natCast] at hct
      clear hlen
      have G := hide (clone_any (b.take m) A m c B w.drew ((h.take (k := m) (by omega)).below (below_drew w |>.mono hB)) hB)
      go_enter Try.func66, Try.ntmps66
      go_wp2_with fail
      refine (must_true _ _).mono ?_
      rintro e w1 ⟨rfl, rfl⟩
      go_wp2_with fail
      refine (must_true _ _).mono ?_
      rintro e w1 ⟨rfl, rfl⟩
      go_wp2
      go_region_held3 (fun W => W.cell? ⟨H, 0, none⟩ = some (.int .i64 (m : Int)))
        (first | exact hc | exact Q1)
        (first | (go_at_call 59; refine Calls.mono G.out ?_; rintro e w1 ⟨v, rfl, hm1, hB1⟩
                  have Q1 : w1.cell? ⟨H, 0, none⟩ = some (.int .i64 (m : Int)) := (hB1.cell (p := ⟨H, 0, none⟩) hH).trans hc))
      all_goals
        go_wp2
        go_ret2
        rw [hT.out]
        exact ⟨(below_drew w).trans hB1, v, rfl, hm1⟩

theorem rint_any (R n c k : Nat) (er : Int) (A : Option Addr) (ks : List UInt8) (w : World) (hr : Rdr w R A n c (k : Int) er) (hb : Bs w R A n c ks) (hk : k ≤ n) :
    Calls Try.prog 25 #[.pointer (some ⟨R, 0, none⟩)] w (Went w R A n c (fun v _ => v = .int .i64 (nxt 0 (readI (ks.drop k)) k er).1) (nxt 0 (readI (ks.drop k)) k er).2.1 (nxt 0 (readI (ks.drop k)) k er).2.2) := by
  have hcf : ∀ (args : Array Value) (w : World), (callFunc 51 args).run Try.prog w = .ok (.enter 51 args) w := fun args w => by simp [callFunc, Try.func51, Try.f51, go_sem]
  have hreach := hb.reach
  have hlen := hb.len
  have hRl := hr.lt
  have hread : ∀ w', Below w.heap.size w w' → Calls Try.prog 51 (#[.slice (cutA A k c) (n - k) (c - k)] ++ #[]) w' fun e w'' => TellsI (readI (ks.drop k)) e ∧ w' = w'' := fun w' h =>
    readInt_any (ks.drop k) _ _ _ R w' ((hb.below (h.mono (by omega))).cut k)
  go_enter Try.func25, Try.ntmps25
  go_wp2_with fail
  by_cases h0 : er = 0
  · subst h0
    cases hu : readI (ks.drop k) with
    | ok p =>
      obtain ⟨v, m⟩ := p
      have hm := readI_len hu
      rw [List.length_drop, hlen] at hm
      refine (on_ok_i 51 #[] R n c k m A (fun x _ => x = .int .i64 v) w hcf hk (by omega) (fun w' h _ => (hread w' h).mono ?_) ⟨fun _ _ _ _ _ _ h => h, fun _ _ _ h => h⟩ (fun _ _ _ _ h => h) (fun _ _ h => ⟨_, h⟩) hr).mono ?_
      · rintro e w'' ⟨ht, rfl⟩
        rw [hu] at ht
        exact ⟨Below.refl _ _, _, ht, rfl⟩
      · rintro e w' ⟨hg, hr', x, rfl, rfl⟩
        go_wp2
        go_ret
        rw [hu, nxt_ok]
        exact ⟨hg, by simpa using hr', _, rfl, rfl⟩
    | error er' =>
      have her := readI_err hu
      refine (on_err_i 51 #[] R n c k er' A w hcf hk (by omega) (fun w' h => (hread w' h).mono ?_) hr).mono ?_
      · rintro e w'' ⟨ht, rfl⟩
        rw [hu] at ht
        exact ⟨Below.refl _ _, ht⟩
      · rintro e w' ⟨hg, hr', rfl⟩
        go_wp2
        go_ret
        rw [hu, nxt_err]
        exact ⟨hg, hr', _, rfl, rfl⟩
  · refine (on_had_i _ R n c k er A w ⟨51, #[], rfl⟩ h0 hr).mono ?_
    rintro e w' ⟨hg, hr', rfl⟩
    go_wp2
    go_ret
    rw [nxt_had _ _ _ _ h0]
    exact ⟨hg, hr', _, rfl, rfl⟩

theorem rfixed_any (R n c k : Nat) (er wide : Int) (A : Option Addr) (ks : List UInt8) (w : World) (hw0 : -9223372036854775808 ≤ wide) (hw1 : wide ≤ 9223372036854775807) (hr : Rdr w R A n c (k : Int) er) (hb : Bs w R A n c ks) (hk : k ≤ n) :
    Calls Try.prog 27 #[.pointer (some ⟨R, 0, none⟩), .int .i64 wide] w (Went w R A n c (fun v _ => v = .int .u64 ((nxt 0 (readX (ks.drop k) wide) k er).1 : Int)) (nxt 0 (readX (ks.drop k) wide) k er).2.1 (nxt 0 (readX (ks.drop k) wide) k er).2.2) := by
  have hmf : ∀ (fn : Fn) (first cap : Array Value) (w : World), (Instr.makeFunc fn first cap).run Try.prog w = .ok (.func fn first cap) w := fun _ _ _ _ => rfl
  have hcf : ∀ (args : Array Value) (w : World), (callFunc 63 args).run Try.prog w = .ok (.enter 63 args) w := fun args w => by simp [callFunc, Try.func63, Try.f63, go_sem]
  have hreach := hb.reach
  have hlen := hb.len
  have hRl := hr.lt
  have hr1 : Rdr (w.alloc (.cells #[.int .i64 wide] 3)) R A n c (k : Int) er := Blk.alloc hr _
  have hb1 := hb.alloc (by omega) (.cells #[.int .i64 wide] 3)
  have hx := Blk.new w 3 #[.int .i64 wide]
  have hs : (w.alloc (.cells #[.int .i64 wide] 3)).heap.size = w.heap.size + 1 := by simp
  have hread : ∀ w', Below (w.alloc (.cells #[.int .i64 wide] 3)).heap.size (w.alloc (.cells #[.int .i64 wide] 3)) w' → Calls Try.prog 63 (#[.slice (cutA A k c) (n - k) (c - k)] ++ #[.pointer (some ⟨w.heap.size, 0, none⟩)]) w' fun e w'' => Tells (readX (ks.drop k) wide) e ∧ w' = w'' := fun w' h =>
    fixedClos (ks.drop k) wide _ _ _ R w.heap.size w' ((hb1.below (h.mono (by omega))).cut k) hw0 hw1 ((hx.below h (by omega)).cell 0)
  go_enter Try.func27, Try.ntmps27
  go_wp2_with fail
  by_cases h0 : er = 0
  · subst h0
    cases hu : readX (ks.drop k) wide with
    | ok p =>
      obtain ⟨v, m⟩ := p
      have hm := readX_len hu
      rw [List.length_drop, hlen] at hm
      refine (on_ok_u 63 #[.pointer (some ⟨w.heap.size, 0, none⟩)] R n c k m A (fun x _ => x = .int .u64 (v : Int)) _ hcf hk (by omega) (fun w' h _ => (hread w' h).mono ?_) ⟨fun _ _ _ _ _ _ h => h, fun _ _ _ h => h⟩ (fun _ _ _ _ h => h) (fun _ _ h => ⟨_, h⟩) hr1).mono ?_
      · rintro e w'' ⟨ht, rfl⟩
        rw [hu] at ht
        exact ⟨Below.refl _ _, _, ht, rfl⟩
      · rintro e w' ⟨hg, hr', x, rfl, rfl⟩
        go_wp2
        go_ret
        rw [hu, nxt_ok]
        exact ⟨grown_alloc _ hg, by simpa using hr', _, rfl, rfl⟩
    | error er' =>
      have her := readX_err hu
      refine (on_err_u 63 #[.pointer (some ⟨w.heap.size, 0, none⟩)] R n c k er' A _ hcf hk (by omega) (fun w' h => (hread w' h).mono ?_) hr1).mono ?_
      · rintro e w'' ⟨ht, rfl⟩
        rw [hu] at ht
        exact ⟨Below.refl _ _, ht⟩
      · rintro e w' ⟨hg, hr', rfl⟩
        go_wp2
        go_ret
        rw [hu, nxt_err]
        exact ⟨grown_alloc _ hg, hr', _, rfl, rfl⟩
  · refine (on_had_u _ R n c k er A _ ⟨63, #[.pointer (some ⟨w.heap.size, 0, none⟩)], rfl⟩ h0 hr1).mono ?_
    rintro e w' ⟨hg, hr', rfl⟩
    go_wp2
    go_ret
    rw [nxt_had _ _ _ _ h0]
    exact ⟨grown_alloc _ hg, hr', _, rfl, rfl⟩

theorem rfield_any (R n c k : Nat) (er : Int) (A : Option Addr) (ks : List UInt8) (w : World) (hr : Rdr w R A n c (k : Int) er) (hb : Bs w R A n c ks) (hk : k ≤ n) :
    Calls Try.prog 29 #[.pointer (some ⟨R, 0, none⟩)] w (Went w R A n c (fun v W => Mine 5 W w.heap.size v (nxt [] (readF (ks.drop k)) k er).1) (nxt [] (readF (ks.drop k)) k er).2.1 (nxt [] (readF (ks.drop k)) k er).2.2) := by
  have hcf : ∀ (args : Array Value) (w : World), (callFunc 54 args).run Try.prog w = .ok (.enter 54 args) w := fun args w => by simp [callFunc, Try.func54, Try.f54, go_sem]
  have hreach := hb.reach
  have hlen := hb.len
  have hRl := hr.lt
  have hread : ∀ w', Below w.heap.size w w' → Calls Try.prog 54 (#[.slice (cutA A k c) (n - k) (c - k)] ++ #[]) w' (TellsF w' (readF (ks.drop k))) := fun w' h =>
    readField_any (ks.drop k) _ _ _ R w' ((hb.below (h.mono (by omega))).cut k) (by have := h.size; omega)
  go_enter Try.func29, Try.ntmps29
  go_wp2_with fail
  by_cases h0 : er = 0
  · subst h0
    cases hu : readF (ks.drop k) with
    | ok p =>
      obtain ⟨f, m⟩ := p
      have hm := (readF_len hu).1
      rw [List.length_drop, hlen] at hm
      refine (on_ok_b 54 #[] R n c k m A (fun v W => Mine 5 W (w.heap.size + 1 + 1 + 1 + 1 + 1) v f) w hcf hk (by omega) (fun w' h hsz => (hread w' h).mono ?_) ⟨fun _ _ p u _ hp h => h.setCell hp u, fun _ _ q h => h.drewN q⟩ (fun _ _ off u h => h.setCell (p := ⟨R, off, none⟩) (by simp; omega) u) (fun _ _ h => mine_shape h) hr).mono ?_
      · rintro e w'' ht
        rw [hu] at ht
        obtain ⟨v, rfl, hm1, hB1⟩ := ht
        obtain ⟨X, q, qc, rfl⟩ := mine_shape hm1
        exact ⟨hB1, X, q, qc, rfl, hm1.mono hsz⟩
      · rintro e w' ⟨hg, hr', x, rfl, hm1⟩
        go_wp2
        go_ret
        rw [hu, nxt_ok]
        exact ⟨hg, by simpa using hr', _, rfl, hm1.mono (by omega)⟩
    | error er' =>
      have her := readF_err hu
      refine (on_err_b 54 #[] R n c k er' A w hcf hk (by omega) (fun w' h => (hread w' h).mono ?_) hr).mono ?_
      · rintro e w'' ht
        rw [hu] at ht
        obtain ⟨rfl, rfl⟩ := ht
        exact ⟨Below.refl _ _, rfl⟩
      · rintro e w' ⟨hg, hr', rfl⟩
        go_wp2
        go_ret
        rw [hu, nxt_err]
        exact ⟨hg, hr', _, rfl, Mine.nil _ _ _⟩
  · refine (on_had_b _ R n c k er A w ⟨54, #[], rfl⟩ h0 hr).mono ?_
    rintro e w' ⟨hg, hr', rfl⟩
    go_wp2
    go_ret
    rw [nxt_had _ _ _ _ h0]
    exact ⟨hg, hr', _, rfl, Mine.nil _ _ _⟩

theorem rtake_any (R n c k : Nat) (er N : Int) (A : Option Addr) (ks : List UInt8) (w : World) (hw0 : -9223372036854775808 ≤ N) (hw1 : N ≤ 9223372036854775807) (hr : Rdr w R A n c (k : Int) er) (hb : Bs w R A n c ks) (hk : k ≤ n) :
    Calls Try.prog 31 #[.pointer (some ⟨R, 0, none⟩), .int .i64 N] w (Went w R A n c (fun v W => Mine 5 W w.heap.size v (nxt [] (readT (ks.drop k) N) k er).1) (nxt [] (readT (ks.drop k) N) k er).2.1 (nxt [] (readT (ks.drop k) N) k er).2.2) := by
  have hmf : ∀ (fn : Fn) (first cap : Array Value) (w : World), (Instr.makeFunc fn first cap).run Try.prog w = .ok (.func fn first cap) w := fun _ _ _ _ => rfl
  have hcf : ∀ (args : Array Value) (w : World), (callFunc 66 args).run Try.prog w = .ok (.enter 66 args) w := fun args w => by simp [callFunc, Try.func66, Try.f66, go_sem]
  have hreach := hb.reach
  have hlen := hb.len
  have hRl := hr.lt
  have hr1 : Rdr (w.alloc (.cells #[.int .i64 N] 3)) R A n c (k : Int) er := Blk.alloc hr _
  have hb1 := hb.alloc (by omega) (.cells #[.int .i64 N] 3)
  have hx := Blk.new w 3 #[.int .i64 N]
  have hs : (w.alloc (.cells #[.int .i64 N] 3)).heap.size = w.heap.size + 1 := by simp
  have hread := fun (w' : World) (h : Below (w.alloc (.cells #[.int .i64 N] 3)).heap.size (w.alloc (.cells #[.int .i64 N] 3)) w') =>
    takeClos (ks.drop k) N (cutA A k c) (n - k) (c - k) R w.heap.size w' ((hb1.below (h.mono (by omega))).cut k) (by have := h.size; omega) hw0 hw1 ((hx.below h (by omega)).cell 0) (by have := h.size; omega)
  go_enter Try.func31, Try.ntmps31
  go_wp2_with fail
  by_cases h0 : er = 0
  · subst h0
    cases hu : readT (ks.drop k) N with
    | ok p =>
      obtain ⟨f, m⟩ := p
      have hm := (readT_len hu).1
      rw [List.length_drop, hlen] at hm
      refine (on_ok_b 66 #[.pointer (some ⟨w.heap.size, 0, none⟩)] R n c k m A (fun v W => Mine 5 W ((w.alloc (.cells #[.int .i64 N] 3)).heap.size + 1 + 1 + 1 + 1 + 1) v f) _ hcf hk (by omega) (fun w' h hsz => (hread w' h).mono ?_) ⟨fun _ _ p u _ hp h => h.setCell hp u, fun _ _ q h => h.drewN q⟩ (fun _ _ off u h => h.setCell (p := ⟨R, off, none⟩) (by simp; omega) u) (fun _ _ h => mine_shape h) hr1).mono ?_
      · rintro e w'' ⟨hB1, ht⟩
        rw [hu] at ht
        obtain ⟨v, rfl, hm1⟩ := ht
        obtain ⟨X, q, qc, rfl⟩ := mine_shape hm1
        exact ⟨hB1, X, q, qc, rfl, hm1.mono hsz⟩
      · rintro e w' ⟨hg, hr', x, rfl, hm1⟩
        go_wp2
        go_ret
        rw [hu, nxt_ok]
        exact ⟨grown_alloc _ hg, by simpa using hr', _, rfl, hm1.mono (by omega)⟩
    | error er' =>
      have her := readT_err hu
      refine (on_err_b 66 #[.pointer (some ⟨w.heap.size, 0, none⟩)] R n c k er' A _ hcf hk (by omega) (fun w' h => (hread w' h).mono ?_) hr1).mono ?_
      · rintro e w'' ⟨hB1, ht⟩
        rw [hu] at ht
        exact ⟨hB1, ht⟩
      · rintro e w' ⟨hg, hr', rfl⟩
        go_wp2
        go_ret
        rw [hu, nxt_err]
        exact ⟨grown_alloc _ hg, hr', _, rfl, Mine.nil _ _ _⟩
  · refine (on_had_b _ R n c k er A _ ⟨66, #[.pointer (some ⟨w.heap.size, 0, none⟩)], rfl⟩ h0 hr1).mono ?_
    rintro e w' ⟨hg, hr', rfl⟩
    go_wp2
    go_ret
    rw [nxt_had _ _ _ _ h0]
    exact ⟨grown_alloc _ hg, hr', _, rfl, Mine.nil _ _ _⟩

end Go.Proofs.Ytdlbhppoknbnlaa
