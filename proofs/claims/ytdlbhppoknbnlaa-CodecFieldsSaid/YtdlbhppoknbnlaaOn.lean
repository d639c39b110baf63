/-
  The walks of codec.on at its three types, and of its closures. (Printed by gen_on.py.)
-/
import Derived.Test.YtdlbhppoknbnlaaClone
import Derived.Deep.RegionHeld3
namespace Go.Proofs.Ytdlbhppoknbnlaa
open Go.RowKit

/-- behind on's closure, where the thrower has read: H the block of the reader's variable -/
def OncOk (w : World) (H k' : Nat) (t : TypeId) (V : Value → World → Prop) (e : Ending) (w' : World) : Prop :=
  Below (H + 1 + 1) w w' ∧ e = .returned (.tuple #[]) ∧ Blk w' (H + 1 + 1 + 1 + 1) 28 #[.int .i64 0] ∧ ∃ v, Blk w' (H + 1 + 1) t #[v] ∧ Blk w' (H + 1 + 1 + 1) 3 #[.int .i64 (k' : Int)] ∧ V v w'
/-- .. where it has thrown -/
def OncErr (w : World) (H : Nat) (er : Int) (e : Ending) (w' : World) : Prop :=
  Below (H + 1 + 1) w w' ∧ e = .panicked (failure er) ∧ Blk w' (H + 1 + 1 + 1 + 1) 28 #[.int .i64 0]

/-- a property of what was read that on's own cells, and draws, don't touch -/
structure Lasts2 (H : Nat) (V : Value → World → Prop) : Prop where
  set : ∀ v W p u, H ≤ p.block → p.block < H + 1 + 1 + 1 + 1 + 1 → V v W → V v (W.setCell p u)
  drew : ∀ v W k, V v W → V v (W.drewN k)

theorem below_drew (w : World) : Below w.heap.size w w.drew := ⟨rfl, rfl, rfl, Nat.le_refl _, fun _ _ => rfl⟩
theorem Rdr.far {w : World} {R n c : Nat} {A : Option Addr} {a b : Int} (h : Rdr w R A n c a b) {p : Addr} (hp : R ≠ p.block) (u : Value) : Rdr (w.setCell p u) R A n c a b := Blk.far h hp u
theorem Rdr.below {w w' : World} {R n c B : Nat} {A : Option Addr} {a b : Int} (h : Rdr w R A n c a b) (hb : Below B w w') (hR : R < B) : Rdr w' R A n c a b := Blk.below h hb hR
theorem Rdr.setE {w : World} {R n c : Nat} {A : Option Addr} {a b : Int} (h : Rdr w R A n c a b) (z : Int) : Rdr (w.setCell ⟨R, 3, none⟩ (.int .i64 z)) R A n c a z := Blk.put h 3 _
theorem Rdr.setA {w : World} {R n c : Nat} {A : Option Addr} {a b : Int} (h : Rdr w R A n c a b) (z : Int) : Rdr (w.setCell ⟨R, 2, none⟩ (.int .i64 z)) R A n c z b := Blk.put h 2 _
theorem grown_of_below {w w' : World} (h : Below w.heap.size w w') (r : Option Nat) : w.grownBy w' r := ⟨h.os, h.tape, h.output, h.size, fun k hk _ => h.block k hk⟩
theorem grown_drew {w w' : World} {r : Option Nat} (h : w.grownBy w' r) : w.grownBy w'.drew r := ⟨h.os, h.tape, h.output, h.size, h.block⟩
theorem grown_set {w w' : World} {R : Nat} (h : w.grownBy w' (some R)) {p : Addr} (hp : p.block = R ∨ w.heap.size ≤ p.block) (u : Value) : w.grownBy (w'.setCell p u) (some R) :=
  ⟨h.os, h.tape, h.output, by simpa using h.size, fun k hk hn => (Below.heap_setCell w' p u k (fun e => by
    rcases hp with e' | e'
    · exact hn (by rw [e, e'])
    · omega)).trans (h.block k hk hn)⟩


set_option maxRecDepth 100000 in
set_option maxHeartbeats 1000000 in
theorem onc_ok_u (G : FuncId) (cap : Array Value) (H R n c k k' : Nat) (A : Option Addr) (V : Value → World → Prop) (w : World) (v0 : Value) (n0 : Int)
    (hcf : ∀ (args : Array Value) (w : World), (callFunc G args).run Try.prog w = .ok (.enter G args) w) (hk : k ≤ n) (hR : R < H)
    (hG : ∀ w', Below w.heap.size w w' → Calls Try.prog G (#[.slice (cutA A k c) (n - k) (c - k)] ++ cap) w' fun e w'' => Below w'.heap.size w' w'' ∧ ∃ x, e = .returned (.tuple #[(.int .u64 x), .int .i64 (k' : Int)]) ∧ V (.int .u64 x) w'')
    (hV : Lasts2 H V)
    (b0 : Blk w H 47 #[.pointer (some ⟨R, 0, none⟩)]) (b1 : Blk w (H + 1) 80 #[.func (.func G) #[] cap]) (b2 : Blk w (H + 1 + 1) 22 #[v0]) (b3 : Blk w (H + 1 + 1 + 1) 3 #[.int .i64 n0]) (b4 : Blk w (H + 1 + 1 + 1 + 1) 28 #[.int .i64 0])
    (hr : Rdr w R A n c (k : Int) 0) :
    Calls Try.prog 78 #[.pointer (some ⟨H + 1, 0, none⟩), .pointer (some ⟨H, 0, none⟩), .pointer (some ⟨H + 1 + 1, 0, none⟩), .pointer (some ⟨H + 1 + 1 + 1, 0, none⟩)] w (OncOk w H k' 22 V) := by
  have c0 : w.cell? ⟨H, 0, none⟩ = some (.pointer (some ⟨R, 0, none⟩)) := b0.cell 0
  have c1 : w.cell? ⟨H + 1, 0, none⟩ = some (.func (.func G) #[] cap) := b1.cell 0
  have r1 : w.cell? ⟨R, 1, none⟩ = some (.slice A n c) := hr.cell 1
  have r2 : w.cell? ⟨R, 2, none⟩ = some (.int .i64 (k : Int)) := hr.cell 2
  have l4 := b4.lt
  have hcut := run_cut (P := Try.prog) 24 5 Try.underlying24 (fun w => by simp [go_sem]) A n c .i64 (k : Int) (by omega) (by omega)
  simp only [Int.toNat_natCast] at hcut
  have HG := hide (hG w.drew (below_drew w))
  clear hG
  go_enter Try.func78, Try.ntmps78
  go_region_held3 (fun w' => w'.cell? ⟨H, 0, none⟩ = some (.pointer (some ⟨R, 0, none⟩)) ∧ w'.cell? ⟨H + 1, 0, none⟩ = some (.func (.func G) #[] cap) ∧ w'.cell? ⟨R, 1, none⟩ = some (.slice A n c) ∧ w'.cell? ⟨R, 2, none⟩ = some (.int .i64 (k : Int)))
    (first | exact ⟨c0, c1, r1, r2⟩ | exact ⟨q0, q1, s1, s2⟩ | (refine ⟨?_, ?_, ?_, ?_⟩ <;> (repeat (refine (World.cell?_setCell_other _ _ _ _ (by simp <;> omega)).trans ?_)) <;> assumption))
    (first | (refine Calls.mono HG.out ?_; rintro e w1 ⟨hB, x, rfl, hv⟩
              have q0 : w1.cell? ⟨H, 0, none⟩ = some (.pointer (some ⟨R, 0, none⟩)) := (hB.cell (p := ⟨H, 0, none⟩) (show H < w.heap.size by omega)).trans c0
              have q1 : w1.cell? ⟨H + 1, 0, none⟩ = some (.func (.func G) #[] cap) := (hB.cell (p := ⟨H + 1, 0, none⟩) (show H + 1 < w.heap.size by omega)).trans c1
              have s1 : w1.cell? ⟨R, 1, none⟩ = some (.slice A n c) := (hB.cell (p := ⟨R, 1, none⟩) (show R < w.heap.size by omega)).trans r1
              have s2 : w1.cell? ⟨R, 2, none⟩ = some (.int .i64 (k : Int)) := (hB.cell (p := ⟨R, 2, none⟩) (show R < w.heap.size by omega)).trans r2
              have d2 := Blk.below (w := w.drew) b2 hB (show H + 1 + 1 < w.heap.size by omega)
              have d3 := Blk.below (w := w.drew) b3 hB (show H + 1 + 1 + 1 < w.heap.size by omega)
              have d4 := Blk.below (w := w.drew) b4 hB (show H + 1 + 1 + 1 + 1 < w.heap.size by omega)
              have e2 : w1.cell? ⟨H + 1 + 1, 0, none⟩ = some v0 := d2.cell 0
              have z2 := d2.frozen 0
              have e3 : (w1.setCell ⟨H + 1 + 1, 0, none⟩ (.int .u64 x)).cell? ⟨H + 1 + 1 + 1, 0, none⟩ = some (.int .i64 n0) := (d3.far (p := ⟨H + 1 + 1, 0, none⟩) (by simp <;> omega) (.int .u64 x)).cell 0
              have z3 : (w1.setCell ⟨H + 1 + 1, 0, none⟩ (.int .u64 x)).frozen? ⟨H + 1 + 1 + 1, 0, none⟩ = false := (d3.far (p := ⟨H + 1 + 1, 0, none⟩) (by simp <;> omega) (.int .u64 x)).frozen 0))
  all_goals
    go_end0
    have hB' : Below (H + 1 + 1) w w1 := (below_drew w |>.mono (by omega)).trans (hB.mono (show H + 1 + 1 ≤ w.heap.size by omega))
    exact ⟨(hB'.setCell (p := ⟨H + 1 + 1, 0, none⟩) (by simp <;> omega) _).setCell (p := ⟨H + 1 + 1 + 1, 0, none⟩) (by simp <;> omega) _, rfl, (d4.far (p := ⟨H + 1 + 1, 0, none⟩) (by simp <;> omega) _).far (p := ⟨H + 1 + 1 + 1, 0, none⟩) (by simp <;> omega) _,
      _, (d2.put 0 (.int .u64 x)).far (p := ⟨H + 1 + 1 + 1, 0, none⟩) (by simp <;> omega) _, (d3.far (p := ⟨H + 1 + 1, 0, none⟩) (by simp <;> omega) _).put 0 _, hV.set _ _ ⟨H + 1 + 1 + 1, 0, none⟩ _ (by simp <;> omega) (by simp <;> omega) (hV.set _ _ ⟨H + 1 + 1, 0, none⟩ _ (by simp <;> omega) (by simp <;> omega) hv)⟩

set_option maxRecDepth 100000 in
set_option maxHeartbeats 1000000 in
theorem onc_err_u (G : FuncId) (cap : Array Value) (H R n c k : Nat) (er : Int) (A : Option Addr) (w : World) (v0 : Value) (n0 : Int)
    (hcf : ∀ (args : Array Value) (w : World), (callFunc G args).run Try.prog w = .ok (.enter G args) w) (hk : k ≤ n) (_ : R < H)
    (hG : ∀ w', Below w.heap.size w w' → Calls Try.prog G (#[.slice (cutA A k c) (n - k) (c - k)] ++ cap) w' fun e w'' => Below w'.heap.size w' w'' ∧ e = .panicked (failure er))
    (b0 : Blk w H 47 #[.pointer (some ⟨R, 0, none⟩)]) (b1 : Blk w (H + 1) 80 #[.func (.func G) #[] cap]) (_ : Blk w (H + 1 + 1) 22 #[v0]) (_ : Blk w (H + 1 + 1 + 1) 3 #[.int .i64 n0]) (b4 : Blk w (H + 1 + 1 + 1 + 1) 28 #[.int .i64 0])
    (hr : Rdr w R A n c (k : Int) 0) :
    Calls Try.prog 78 #[.pointer (some ⟨H + 1, 0, none⟩), .pointer (some ⟨H, 0, none⟩), .pointer (some ⟨H + 1 + 1, 0, none⟩), .pointer (some ⟨H + 1 + 1 + 1, 0, none⟩)] w (OncErr w H er) := by
  have c0 : w.cell? ⟨H, 0, none⟩ = some (.pointer (some ⟨R, 0, none⟩)) := b0.cell 0
  have c1 : w.cell? ⟨H + 1, 0, none⟩ = some (.func (.func G) #[] cap) := b1.cell 0
  have r1 : w.cell? ⟨R, 1, none⟩ = some (.slice A n c) := hr.cell 1
  have r2 : w.cell? ⟨R, 2, none⟩ = some (.int .i64 (k : Int)) := hr.cell 2
  have l4 := b4.lt
  have hcut := run_cut (P := Try.prog) 24 5 Try.underlying24 (fun w => by simp [go_sem]) A n c .i64 (k : Int) (by omega) (by omega)
  simp only [Int.toNat_natCast] at hcut
  have HG := hide (hG w.drew (below_drew w))
  clear hG
  go_enter Try.func78, Try.ntmps78
  refine wp_region_held_drew (S := fun w' => w'.cell? ⟨H, 0, none⟩ = some (.pointer (some ⟨R, 0, none⟩)) ∧ w'.cell? ⟨H + 1, 0, none⟩ = some (.func (.func G) #[] cap) ∧ w'.cell? ⟨R, 1, none⟩ = some (.slice A n c) ∧ w'.cell? ⟨R, 2, none⟩ = some (.int .i64 (k : Int))) (by kernel_rfl) ⟨c0, c1, r1, r2⟩ (fun hHeld => ?_)
  refine wpAnyH_take (i := 0) (v := ?_) rfl (by kernel_rfl) (by kernel_rfl) (by kernel_rfl) (fun _ _ _ h => h) (Or.inl ⟨by rfl, ?_⟩) (by assumption) ?_
  rotate_left
  · (intro w hSw; (try dsimp only at hSw); go_simp; try with_reducible rfl)
  (try simp only [Act.put, List.setIfInBounds_toArray])
  refine wpAnyH_take (i := 1) (v := ?_) rfl (by kernel_rfl) (by kernel_rfl) (by kernel_rfl) (fun _ _ _ h => h) (Or.inl ⟨by rfl, ?_⟩) (by assumption) ?_
  rotate_left
  · (intro w hSw; (try dsimp only at hSw); go_simp; try with_reducible rfl)
  (try simp only [Act.put])
  refine wpAnyH_take (i := 2) (v := ?_) rfl (by kernel_rfl) (by kernel_rfl) (by kernel_rfl) (fun _ _ _ h => h) (Or.inl ⟨by rfl, ?_⟩) (by assumption) ?_
  rotate_left
  · (intro w hSw; (try dsimp only at hSw); go_simp; try with_reducible rfl)
  (try simp only [Act.put])
  refine wpAnyH_take (i := 3) (v := ?_) rfl (by kernel_rfl) (by kernel_rfl) (by kernel_rfl) (fun _ _ _ h => h) (Or.inl ⟨by rfl, ?_⟩) (by assumption) ?_
  rotate_left
  · (intro w hSw; (try dsimp only at hSw); go_simp; try with_reducible rfl)
  (try simp only [Act.put])
  refine wpAnyH_take (i := 4) (v := ?_) rfl (by kernel_rfl) (by kernel_rfl) (by kernel_rfl) (fun _ _ _ h => h) (Or.inl ⟨by rfl, ?_⟩) (by assumption) ?_
  rotate_left
  · (intro w hSw; (try dsimp only at hSw); go_simp; try with_reducible rfl)
  (try simp only [Act.put])
  refine wpAnyH_take (i := 5) (v := ?_) rfl (by kernel_rfl) (by kernel_rfl) (by kernel_rfl) (fun _ _ _ h => h) (Or.inl ⟨by rfl, ?_⟩) (by assumption) ?_
  rotate_left
  · (intro w hSw; (try dsimp only at hSw); go_simp; try with_reducible rfl)
  (try simp only [Act.put])
  refine wpAnyH_take (i := 6) (v := ?_) rfl (by kernel_rfl) (by kernel_rfl) (by kernel_rfl) (fun _ _ _ h => h) (Or.inl ⟨by rfl, ?_⟩) (by assumption) ?_
  rotate_left
  · (intro w hSw; (try dsimp only at hSw); go_simp; try with_reducible rfl)
  (try simp only [Act.put])
  refine wpAnyH_take (i := 7) (v := ?_) rfl (by kernel_rfl) (by kernel_rfl) (by kernel_rfl) (fun _ _ _ h => h) (Or.inl ⟨by rfl, ?_⟩) (by assumption) ?_
  rotate_left
  · (intro w hSw; (try dsimp only at hSw); go_simp; try with_reducible rfl)
  (try simp only [Act.put])
  refine wpAnyH_take (i := 8) (v := ?_) rfl (by kernel_rfl) (by kernel_rfl) (by kernel_rfl) (fun _ _ _ h => h) (Or.inl ⟨by rfl, ?_⟩) (by assumption) ?_
  rotate_left
  · (intro w hSw; (try dsimp only at hSw); go_simp; try with_reducible rfl)
  (try simp only [Act.put])
  refine wpAnyH_take (i := 9) (v := ?_) rfl (by kernel_rfl) (by kernel_rfl) (by kernel_rfl) (fun _ _ _ h => h) (Or.inl ⟨by rfl, ?_⟩) (by assumption) ?_
  rotate_left
  · (intro w hSw; (try dsimp only at hSw); go_simp; try with_reducible rfl)
  (try simp only [Act.put])
  refine wpAnyH_ready (rs := [10]) (by kernel_rfl) (by simp) (AllReadyH.cons rfl (fun K hK => ?_) AllReadyH.nil)
  go_simp
  refine Calls.mono HG.out ?_
  rintro e w1 ⟨hB, rfl⟩
  have d4 := Blk.below (w := w.drew) b4 hB (show H + 1 + 1 + 1 + 1 < w.heap.size by omega)
  have hB' : Below (H + 1 + 1) w w1 := (below_drew w |>.mono (by omega)).trans (hB.mono (show H + 1 + 1 ≤ w.heap.size by omega))
  exact ⟨rfl, hB', rfl, d4⟩


theorem gon_ok_u (G : FuncId) (cap : Array Value) (H R n c k k' : Nat) (A : Option Addr) (V : Value → World → Prop) (w : World) (v0 : Value) (n0 : Int)
    (hcf : ∀ (args : Array Value) (w : World), (callFunc G args).run Try.prog w = .ok (.enter G args) w) (hk : k ≤ n) (hR : R < H)
    (hG : ∀ w', Below w.heap.size w w' → w.heap.size + 1 ≤ w'.heap.size → Calls Try.prog G (#[.slice (cutA A k c) (n - k) (c - k)] ++ cap) w' fun e w'' => Below w'.heap.size w' w'' ∧ ∃ x, e = .returned (.tuple #[(.int .u64 x), .int .i64 (k' : Int)]) ∧ V (.int .u64 x) w'')
    (hV : Lasts2 H V)
    (b0 : Blk w H 47 #[.pointer (some ⟨R, 0, none⟩)]) (b1 : Blk w (H + 1) 80 #[.func (.func G) #[] cap]) (b2 : Blk w (H + 1 + 1) 22 #[v0]) (b3 : Blk w (H + 1 + 1 + 1) 3 #[.int .i64 n0])
    (hs : w.heap.size = H + 1 + 1 + 1 + 1)
    (hr : Rdr w R A n c (k : Int) 0) :
    Calls Try.prog 72 #[.func (.func 78) #[] #[.pointer (some ⟨H + 1, 0, none⟩), .pointer (some ⟨H, 0, none⟩), .pointer (some ⟨H + 1 + 1, 0, none⟩), .pointer (some ⟨H + 1 + 1 + 1, 0, none⟩)]] w fun e w' => e = .returned (.int .i64 0) ∧ Below (H + 1 + 1) w w' ∧ ∃ v, Blk w' (H + 1 + 1) 22 #[v] ∧ Blk w' (H + 1 + 1 + 1) 3 #[.int .i64 (k' : Int)] ∧ V v w' := by
  have hw : Below w.heap.size w (w.alloc (.cells #[.int .i64 0] 28)) := (Below.refl _ w).alloc (Nat.le_refl _) _
  have b4 : Blk (w.alloc (.cells #[.int .i64 0] 28)) (H + 1 + 1 + 1 + 1) 28 #[.int .i64 0] := by have := Blk.new w 28 #[.int .i64 0]; rw [hs] at this; exact this
  refine (guarded_any 78 _ w (OncOk (w.alloc (.cells #[.int .i64 0] 28)) H k' 22 V) (onc_ok_u G cap H R n c k k' A V _ v0 n0 hcf hk hR (fun w' h => hG w' (hw.trans (h.mono (by simp))) (by have := h.size; simpa using this)) hV (b0.alloc _) (b1.alloc _) (b2.alloc _) (b3.alloc _) b4 (Blk.alloc hr _)) (fun args w => by simp [callFunc, Try.func78, Try.f78, go_sem]) ?_).mono ?_
  · rintro e w' ⟨_, rfl, b5, _⟩
    rw [hs]
    exact ⟨.inl rfl, b5⟩
  · rintro e w' ⟨w0, h⟩
    rcases h with ⟨⟨hB, _, b5, v, d2, d3, hv⟩, rfl, u, rfl⟩ | ⟨c', ⟨_, e, _⟩, _⟩
    · rw [hs]
      exact ⟨rfl, ((hw.mono (by omega)).trans hB).setCell (p := ⟨H + 1 + 1 + 1 + 1, 0, none⟩) (by simp <;> omega) u, v, d2.far (p := ⟨H + 1 + 1 + 1 + 1, 0, none⟩) (by simp <;> omega) u, d3.far (p := ⟨H + 1 + 1 + 1 + 1, 0, none⟩) (by simp <;> omega) u, hV.set _ _ ⟨H + 1 + 1 + 1 + 1, 0, none⟩ _ (by simp <;> omega) (by simp <;> omega) hv⟩
    · cases e

theorem gon_err_u (G : FuncId) (cap : Array Value) (H R n c k : Nat) (er : Int) (A : Option Addr) (w : World) (v0 : Value) (n0 : Int)
    (hcf : ∀ (args : Array Value) (w : World), (callFunc G args).run Try.prog w = .ok (.enter G args) w) (hk : k ≤ n) (hR : R < H)
    (hG : ∀ w', Below w.heap.size w w' → Calls Try.prog G (#[.slice (cutA A k c) (n - k) (c - k)] ++ cap) w' fun e w'' => Below w'.heap.size w' w'' ∧ e = .panicked (failure er))
    (b0 : Blk w H 47 #[.pointer (some ⟨R, 0, none⟩)]) (b1 : Blk w (H + 1) 80 #[.func (.func G) #[] cap]) (b2 : Blk w (H + 1 + 1) 22 #[v0]) (b3 : Blk w (H + 1 + 1 + 1) 3 #[.int .i64 n0])
    (hs : w.heap.size = H + 1 + 1 + 1 + 1)
    (hr : Rdr w R A n c (k : Int) 0) :
    Calls Try.prog 72 #[.func (.func 78) #[] #[.pointer (some ⟨H + 1, 0, none⟩), .pointer (some ⟨H, 0, none⟩), .pointer (some ⟨H + 1 + 1, 0, none⟩), .pointer (some ⟨H + 1 + 1 + 1, 0, none⟩)]] w fun e w' => e = .returned (.int .i64 er) ∧ Below (H + 1 + 1) w w' := by
  have hw : Below w.heap.size w (w.alloc (.cells #[.int .i64 0] 28)) := (Below.refl _ w).alloc (Nat.le_refl _) _
  have b4 : Blk (w.alloc (.cells #[.int .i64 0] 28)) (H + 1 + 1 + 1 + 1) 28 #[.int .i64 0] := by have := Blk.new w 28 #[.int .i64 0]; rw [hs] at this; exact this
  refine (guarded_any 78 _ w (OncErr (w.alloc (.cells #[.int .i64 0] 28)) H er) (onc_err_u G cap H R n c k er A _ v0 n0 hcf hk hR (fun w' h => hG w' (hw.trans (h.mono (by simp)))) (b0.alloc _) (b1.alloc _) (b2.alloc _) (b3.alloc _) b4 (Blk.alloc hr _)) (fun args w => by simp [callFunc, Try.func78, Try.f78, go_sem]) ?_).mono ?_
  · rintro e w' ⟨_, rfl, b5⟩
    rw [hs]
    exact ⟨.inr ⟨er, rfl⟩, b5⟩
  · rintro e w' ⟨w0, h⟩
    rcases h with ⟨⟨hB, e, b5⟩, _⟩ | ⟨c', ⟨hB, e, b5⟩, rfl, u, rfl⟩
    · cases e
    · obtain rfl : c' = er := by simpa [failure] using e
      rw [hs]
      exact ⟨rfl, ((hw.mono (by omega)).trans hB).setCell (p := ⟨H + 1 + 1 + 1 + 1, 0, none⟩) (by simp <;> omega) u⟩


set_option maxRecDepth 100000 in
set_option maxHeartbeats 1000000 in
theorem on_ok_u (G : FuncId) (cap : Array Value) (R n c k k' : Nat) (A : Option Addr) (V : Value → World → Prop) (w : World)
    (hcf : ∀ (args : Array Value) (w : World), (callFunc G args).run Try.prog w = .ok (.enter G args) w) (hk : k ≤ n) (hkk : k + k' ≤ 140737488355328)
    (hG : ∀ w', Below w.heap.size w w' → w.heap.size + 1 + 1 + 1 + 1 + 1 ≤ w'.heap.size → Calls Try.prog G (#[.slice (cutA A k c) (n - k) (c - k)] ++ cap) w' fun e w'' => Below w'.heap.size w' w'' ∧ ∃ x, e = .returned (.tuple #[(.int .u64 x), .int .i64 (k' : Int)]) ∧ V (.int .u64 x) w'')
    (hV : Lasts2 w.heap.size V) (hVR : ∀ v W off u, V v W → V v (W.setCell ⟨R, off, none⟩ u)) (hsh : ∀ v W, V v W → ∃ x, v = (.int .u64 x))
    (hr : Rdr w R A n c (k : Int) 0) :
    Calls Try.prog 60 #[.pointer (some ⟨R, 0, none⟩), .func (.func G) #[] cap] w fun e w' => w.grownBy w' (some R) ∧ Rdr w' R A n c ((k : Int) + (k' : Int)) 0 ∧ ∃ v, e = .returned v ∧ V v w' := by
  have hmf : ∀ (fn : Fn) (first cap : Array Value) (w : World), (Instr.makeFunc fn first cap).run Try.prog w = .ok (.func fn first cap) w := fun _ _ _ _ => rfl
  have hRl := hr.lt
  go_enter Try.func60, Try.ntmps60
  go_wp2_with fail
  generalize hW3 : ((w.alloc (.cells #[.pointer (some ⟨R, 0, none⟩)] 47)).alloc (.cells #[.func (.func G) #[] cap] 80)).alloc (.cells #[(.int .u64 0)] 22) = W3
  have b0 : Blk W3 w.heap.size 47 #[.pointer (some ⟨R, 0, none⟩)] := by rw [← hW3]; exact ((Blk.new w 47 _).alloc _).alloc _
  have b1 : Blk W3 (w.heap.size + 1) 80 #[.func (.func G) #[] cap] := by
    rw [← hW3]
    have := Blk.new (w.alloc (.cells #[.pointer (some ⟨R, 0, none⟩)] 47)) 80 #[.func (.func G) #[] cap]
    rw [World.size_alloc] at this
    exact this.alloc _
  have b2 : Blk W3 (w.heap.size + 1 + 1) 22 #[(.int .u64 0)] := by
    rw [← hW3]
    have := Blk.new ((w.alloc (.cells #[.pointer (some ⟨R, 0, none⟩)] 47)).alloc (.cells #[.func (.func G) #[] cap] 80)) 22 #[(.int .u64 0)]
    rw [World.size_alloc, World.size_alloc] at this
    exact this
  have hs3 : W3.heap.size = w.heap.size + 1 + 1 + 1 := by rw [← hW3]; simp
  have hB3 : Below w.heap.size w W3 := by
    rw [← hW3]
    exact (((Below.refl _ w).alloc (Nat.le_refl _) _).alloc (by simp <;> omega) _).alloc (by simp <;> omega) _
  clear hW3
  have hr3 := hr.below hB3 hRl
  have c0 : W3.cell? ⟨w.heap.size, 0, none⟩ = some (.pointer (some ⟨R, 0, none⟩)) := b0.cell 0
  have e3 : W3.cell? ⟨R, 3, none⟩ = some (.int .i64 0) := hr3.cell 3
  refine (is_any R A n c _ _ W3 hr3).mono ?_
  rintro e w9 ⟨rfl, rfl⟩
  go_wp2_with fail
  have b0 := b0.alloc (.cells #[.int .i64 0] 3)
  have b1 := b1.alloc (.cells #[.int .i64 0] 3)
  have b2 := b2.alloc (.cells #[.int .i64 0] 3)
  have b3 := Blk.new W3 3 #[.int .i64 0]
  have hB4 := hB3.alloc hB3.size (.cells #[.int .i64 0] 3)
  have hs4 : (W3.alloc (.cells #[.int .i64 0] 3)).heap.size = w.heap.size + 1 + 1 + 1 + 1 := by rw [World.size_alloc, hs3]
  rw [hs3] at b3
  have hr4 : Rdr (W3.alloc (.cells #[.int .i64 0] 3)) R A n c (k : Int) 0 := Blk.alloc hr3 _
  clear c0 e3 hr3 hB3 hs3
  generalize W3.alloc (.cells #[.int .i64 0] 3) = W4 at *
  have c0 : W4.cell? ⟨w.heap.size, 0, none⟩ = some (.pointer (some ⟨R, 0, none⟩)) := b0.cell 0
  have hsW : w.heap.size ≤ W4.heap.size := by omega
  have G5 := hide (gon_ok_u G cap w.heap.size R n c k k' A V W4.drew ((.int .u64 0)) 0 hcf hk hRl (fun w' h h1 => hG w' (hB4.trans ((below_drew W4).trans h |>.mono hsW)) (by have : W4.drew.heap.size = W4.heap.size := rfl; omega)) hV b0 b1 b2 b3 hs4 hr4)
  clear hG
  go_region_held3 (fun w' => w'.cell? ⟨w.heap.size, 0, none⟩ = some (.pointer (some ⟨R, 0, none⟩)))
    (first | exact c0 | exact q0 | (refine (World.cell?_setCell_other _ _ _ _ (by simp <;> omega)).trans ?_; assumption))
    (first | (go_at_call 72; refine Calls.mono G5.out ?_; rintro e w5 ⟨rfl, hB5, v, d2, d3, hv⟩
              have q0 : w5.cell? ⟨w.heap.size, 0, none⟩ = some (.pointer (some ⟨R, 0, none⟩)) := (hB5.cell (p := ⟨w.heap.size, 0, none⟩) (show w.heap.size < w.heap.size + 1 + 1 by omega)).trans c0
              have hr5 := Rdr.below (w := W4.drew) hr4 hB5 (by omega)
              have q3 : w5.cell? ⟨R, 3, none⟩ = some (.int .i64 0) := hr5.cell 3
              have z3 : w5.frozen? ⟨R, 3, none⟩ = false := hr5.frozen 3))
  have hG5 : w.grownBy w5 (some R) := ⟨hB5.os.trans hB4.os, hB5.tape.trans hB4.tape, hB5.output.trans hB4.output, by have := hB5.size; simp at this; omega, fun i hi _ => (hB5.block i (by omega)).trans (hB4.block i hi)⟩
  have hG6 := grown_set hG5 (p := ⟨R, 3, none⟩) (.inl rfl) (.int .i64 0)
  have hr6 := hr5.setE 0
  have d1 := (Blk.below (w := W4.drew) b0 hB5 (by omega)).far (p := ⟨R, 3, none⟩) (by simp <;> omega) (.int .i64 0)
  have d2 := d2.far (p := ⟨R, 3, none⟩) (by simp <;> omega) (.int .i64 0)
  have d3 := d3.far (p := ⟨R, 3, none⟩) (by simp <;> omega) (.int .i64 0)
  have hv6 := hVR _ _ 3 (.int .i64 0) hv
  clear q0 q3 z3 c0 hr5 hr4 b0 b1 b2 b3 hs4 hB5 hB4 hsW hv G5 hG5
  generalize w5.setCell ⟨R, 3, none⟩ (.int .i64 0) = W6 at *
  have c0 : W6.cell? ⟨w.heap.size, 0, none⟩ = some (.pointer (some ⟨R, 0, none⟩)) := d1.cell 0
  have q2 : W6.cell? ⟨R, 2, none⟩ = some (.int .i64 (k : Int)) := hr6.cell 2
  have q3 : W6.cell? ⟨R, 3, none⟩ = some (.int .i64 0) := hr6.cell 3
  have z2 : W6.frozen? ⟨R, 2, none⟩ = false := hr6.frozen 2
  have qn : W6.cell? ⟨w.heap.size + 1 + 1 + 1, 0, none⟩ = some (.int .i64 (k' : Int)) := d3.cell 0
  obtain ⟨x, rfl⟩ := hsh _ _ hv6
  have qv := d2.cell 0
  go_wp2
  go_region
  all_goals
    have qv' : (W6.setCell ⟨R, 2, none⟩ (.int .i64 ((k : Int) + (k' : Int)))).cell? ⟨w.heap.size + 1 + 1, 0, none⟩ = some (.int .u64 x) := (d2.far (p := ⟨R, 2, none⟩) (by simp <;> omega) _).cell 0
    go_wp2
    go_ret
    exact ⟨grown_drew (grown_set hG6 (p := ⟨R, 2, none⟩) (.inl rfl) _), hr6.setA _, (.int .u64 x), rfl, hV.drew _ _ 1 (hVR _ _ 2 _ hv6)⟩

set_option maxRecDepth 100000 in
set_option maxHeartbeats 1000000 in
theorem on_err_u (G : FuncId) (cap : Array Value) (R n c k : Nat) (er : Int) (A : Option Addr) (w : World)
    (hcf : ∀ (args : Array Value) (w : World), (callFunc G args).run Try.prog w = .ok (.enter G args) w) (hk : k ≤ n) (her : ¬ er = 0)
    (hG : ∀ w', Below w.heap.size w w' → Calls Try.prog G (#[.slice (cutA A k c) (n - k) (c - k)] ++ cap) w' fun e w'' => Below w'.heap.size w' w'' ∧ e = .panicked (failure er))
    (hr : Rdr w R A n c (k : Int) 0) :
    Calls Try.prog 60 #[.pointer (some ⟨R, 0, none⟩), .func (.func G) #[] cap] w fun e w' => w.grownBy w' (some R) ∧ Rdr w' R A n c (k : Int) er ∧ e = .returned (.int .u64 0) := by
  have hmf : ∀ (fn : Fn) (first cap : Array Value) (w : World), (Instr.makeFunc fn first cap).run Try.prog w = .ok (.func fn first cap) w := fun _ _ _ _ => rfl
  have hRl := hr.lt
  go_enter Try.func60, Try.ntmps60
  go_wp2_with fail
  generalize hW3 : ((w.alloc (.cells #[.pointer (some ⟨R, 0, none⟩)] 47)).alloc (.cells #[.func (.func G) #[] cap] 80)).alloc (.cells #[(.int .u64 0)] 22) = W3
  have b0 : Blk W3 w.heap.size 47 #[.pointer (some ⟨R, 0, none⟩)] := by rw [← hW3]; exact ((Blk.new w 47 _).alloc _).alloc _
  have b1 : Blk W3 (w.heap.size + 1) 80 #[.func (.func G) #[] cap] := by
    rw [← hW3]
    have := Blk.new (w.alloc (.cells #[.pointer (some ⟨R, 0, none⟩)] 47)) 80 #[.func (.func G) #[] cap]
    rw [World.size_alloc] at this
    exact this.alloc _
  have b2 : Blk W3 (w.heap.size + 1 + 1) 22 #[(.int .u64 0)] := by
    rw [← hW3]
    have := Blk.new ((w.alloc (.cells #[.pointer (some ⟨R, 0, none⟩)] 47)).alloc (.cells #[.func (.func G) #[] cap] 80)) 22 #[(.int .u64 0)]
    rw [World.size_alloc, World.size_alloc] at this
    exact this
  have hs3 : W3.heap.size = w.heap.size + 1 + 1 + 1 := by rw [← hW3]; simp
  have hB3 : Below w.heap.size w W3 := by
    rw [← hW3]
    exact (((Below.refl _ w).alloc (Nat.le_refl _) _).alloc (by simp <;> omega) _).alloc (by simp <;> omega) _
  clear hW3
  have hr3 := hr.below hB3 hRl
  have c0 : W3.cell? ⟨w.heap.size, 0, none⟩ = some (.pointer (some ⟨R, 0, none⟩)) := b0.cell 0
  have e3 : W3.cell? ⟨R, 3, none⟩ = some (.int .i64 0) := hr3.cell 3
  refine (is_any R A n c _ _ W3 hr3).mono ?_
  rintro e w9 ⟨rfl, rfl⟩
  go_wp2_with fail
  have b0 := b0.alloc (.cells #[.int .i64 0] 3)
  have b1 := b1.alloc (.cells #[.int .i64 0] 3)
  have b2 := b2.alloc (.cells #[.int .i64 0] 3)
  have b3 := Blk.new W3 3 #[.int .i64 0]
  have hB4 := hB3.alloc hB3.size (.cells #[.int .i64 0] 3)
  have hs4 : (W3.alloc (.cells #[.int .i64 0] 3)).heap.size = w.heap.size + 1 + 1 + 1 + 1 := by rw [World.size_alloc, hs3]
  rw [hs3] at b3
  have hr4 : Rdr (W3.alloc (.cells #[.int .i64 0] 3)) R A n c (k : Int) 0 := Blk.alloc hr3 _
  clear c0 e3 hr3 hB3 hs3
  generalize W3.alloc (.cells #[.int .i64 0] 3) = W4 at *
  have c0 : W4.cell? ⟨w.heap.size, 0, none⟩ = some (.pointer (some ⟨R, 0, none⟩)) := b0.cell 0
  have hsW : w.heap.size ≤ W4.heap.size := by omega
  have G5 := hide (gon_err_u G cap w.heap.size R n c k er A W4.drew ((.int .u64 0)) 0 hcf hk hRl (fun w' h => hG w' (hB4.trans ((below_drew W4).trans h |>.mono hsW))) b0 b1 b2 b3 hs4 hr4)
  clear hG
  go_region_held3 (fun w' => w'.cell? ⟨w.heap.size, 0, none⟩ = some (.pointer (some ⟨R, 0, none⟩)))
    (first | exact c0 | exact q0 | (refine (World.cell?_setCell_other _ _ _ _ (by simp <;> omega)).trans ?_; assumption))
    (first | (go_at_call 72; refine Calls.mono G5.out ?_; rintro e w5 ⟨rfl, hB5⟩
              have q0 : w5.cell? ⟨w.heap.size, 0, none⟩ = some (.pointer (some ⟨R, 0, none⟩)) := (hB5.cell (p := ⟨w.heap.size, 0, none⟩) (show w.heap.size < w.heap.size + 1 + 1 by omega)).trans c0
              have hr5 := Rdr.below (w := W4.drew) hr4 hB5 (by omega)
              have q3 : w5.cell? ⟨R, 3, none⟩ = some (.int .i64 0) := hr5.cell 3
              have z3 : w5.frozen? ⟨R, 3, none⟩ = false := hr5.frozen 3))
  have hG5 : w.grownBy w5 (some R) := ⟨hB5.os.trans hB4.os, hB5.tape.trans hB4.tape, hB5.output.trans hB4.output, by have := hB5.size; simp at this; omega, fun i hi _ => (hB5.block i (by omega)).trans (hB4.block i hi)⟩
  have hG6 := grown_set hG5 (p := ⟨R, 3, none⟩) (.inl rfl) (.int .i64 er)
  have hr6 := hr5.setE er
  have d1 := (Blk.below (w := W4.drew) b0 hB5 (by omega)).far (p := ⟨R, 3, none⟩) (by simp <;> omega) (.int .i64 er)
  clear q0 q3 z3 c0 hr5 hr4 b0 b1 b2 b3 hs4 hB5 hB4 hsW G5 hG5
  generalize w5.setCell ⟨R, 3, none⟩ (.int .i64 er) = W6 at *
  have c0 : W6.cell? ⟨w.heap.size, 0, none⟩ = some (.pointer (some ⟨R, 0, none⟩)) := d1.cell 0
  have q3 : W6.cell? ⟨R, 3, none⟩ = some (.int .i64 er) := hr6.cell 3
  go_wp2
  go_ret
  exact ⟨hG6, hr6, rfl⟩

set_option maxRecDepth 100000 in
set_option maxHeartbeats 1000000 in
theorem on_had_u (f : Value) (R n c k : Nat) (er : Int) (A : Option Addr) (w : World) (hf : ∃ G cap, f = .func (.func G) #[] cap) (her : ¬ er = 0)
    (hr : Rdr w R A n c (k : Int) er) :
    Calls Try.prog 60 #[.pointer (some ⟨R, 0, none⟩), f] w fun e w' => w.grownBy w' (some R) ∧ Rdr w' R A n c (k : Int) er ∧ e = .returned (.int .u64 0) := by
  obtain ⟨G, cap, rfl⟩ := hf
  have hmf : ∀ (fn : Fn) (first cap : Array Value) (w : World), (Instr.makeFunc fn first cap).run Try.prog w = .ok (.func fn first cap) w := fun _ _ _ _ => rfl
  have hRl := hr.lt
  go_enter Try.func60, Try.ntmps60
  go_wp2_with fail
  generalize hW3 : ((w.alloc (.cells #[.pointer (some ⟨R, 0, none⟩)] 47)).alloc (.cells #[.func (.func G) #[] cap] 80)).alloc (.cells #[(.int .u64 0)] 22) = W3
  have b0 : Blk W3 w.heap.size 47 #[.pointer (some ⟨R, 0, none⟩)] := by rw [← hW3]; exact ((Blk.new w 47 _).alloc _).alloc _
  have b1 : Blk W3 (w.heap.size + 1) 80 #[.func (.func G) #[] cap] := by
    rw [← hW3]
    have := Blk.new (w.alloc (.cells #[.pointer (some ⟨R, 0, none⟩)] 47)) 80 #[.func (.func G) #[] cap]
    rw [World.size_alloc] at this
    exact this.alloc _
  have b2 : Blk W3 (w.heap.size + 1 + 1) 22 #[(.int .u64 0)] := by
    rw [← hW3]
    have := Blk.new ((w.alloc (.cells #[.pointer (some ⟨R, 0, none⟩)] 47)).alloc (.cells #[.func (.func G) #[] cap] 80)) 22 #[(.int .u64 0)]
    rw [World.size_alloc, World.size_alloc] at this
    exact this
  have hs3 : W3.heap.size = w.heap.size + 1 + 1 + 1 := by rw [← hW3]; simp
  have hB3 : Below w.heap.size w W3 := by
    rw [← hW3]
    exact (((Below.refl _ w).alloc (Nat.le_refl _) _).alloc (by simp <;> omega) _).alloc (by simp <;> omega) _
  clear hW3
  have hr3 := hr.below hB3 hRl
  have c0 : W3.cell? ⟨w.heap.size, 0, none⟩ = some (.pointer (some ⟨R, 0, none⟩)) := b0.cell 0
  have e3 : W3.cell? ⟨R, 3, none⟩ = some (.int .i64 er) := hr3.cell 3
  refine (is_any R A n c _ _ W3 hr3).mono ?_
  rintro e w9 ⟨rfl, rfl⟩
  go_wp2
  go_ret
  exact ⟨grown_of_below hB3 _, hr3, rfl⟩


set_option maxRecDepth 100000 in
set_option maxHeartbeats 1000000 in
theorem onc_ok_i (G : FuncId) (cap : Array Value) (H R n c k k' : Nat) (A : Option Addr) (V : Value → World → Prop) (w : World) (v0 : Value) (n0 : Int)
    (hcf : ∀ (args : Array Value) (w : World), (callFunc G args).run Try.prog w = .ok (.enter G args) w) (hk : k ≤ n) (hR : R < H)
    (hG : ∀ w', Below w.heap.size w w' → Calls Try.prog G (#[.slice (cutA A k c) (n - k) (c - k)] ++ cap) w' fun e w'' => Below w'.heap.size w' w'' ∧ ∃ x, e = .returned (.tuple #[(.int .i64 x), .int .i64 (k' : Int)]) ∧ V (.int .i64 x) w'')
    (hV : Lasts2 H V)
    (b0 : Blk w H 47 #[.pointer (some ⟨R, 0, none⟩)]) (b1 : Blk w (H + 1) 84 #[.func (.func G) #[] cap]) (b2 : Blk w (H + 1 + 1) 3 #[v0]) (b3 : Blk w (H + 1 + 1 + 1) 3 #[.int .i64 n0]) (b4 : Blk w (H + 1 + 1 + 1 + 1) 28 #[.int .i64 0])
    (hr : Rdr w R A n c (k : Int) 0) :
    Calls Try.prog 79 #[.pointer (some ⟨H + 1, 0, none⟩), .pointer (some ⟨H, 0, none⟩), .pointer (some ⟨H + 1 + 1, 0, none⟩), .pointer (some ⟨H + 1 + 1 + 1, 0, none⟩)] w (OncOk w H k' 3 V) := by
  have c0 : w.cell? ⟨H, 0, none⟩ = some (.pointer (some ⟨R, 0, none⟩)) := b0.cell 0
  have c1 : w.cell? ⟨H + 1, 0, none⟩ = some (.func (.func G) #[] cap) := b1.cell 0
  have r1 : w.cell? ⟨R, 1, none⟩ = some (.slice A n c) := hr.cell 1
  have r2 : w.cell? ⟨R, 2, none⟩ = some (.int .i64 (k : Int)) := hr.cell 2
  have l4 := b4.lt
  have hcut := run_cut (P := Try.prog) 24 5 Try.underlying24 (fun w => by simp [go_sem]) A n c .i64 (k : Int) (by omega) (by omega)
  simp only [Int.toNat_natCast] at hcut
  have HG := hide (hG w.drew (below_drew w))
  clear hG
  go_enter Try.func79, Try.ntmps79
  go_region_held3 (fun w' => w'.cell? ⟨H, 0, none⟩ = some (.pointer (some ⟨R, 0, none⟩)) ∧ w'.cell? ⟨H + 1, 0, none⟩ = some (.func (.func G) #[] cap) ∧ w'.cell? ⟨R, 1, none⟩ = some (.slice A n c) ∧ w'.cell? ⟨R, 2, none⟩ = some (.int .i64 (k : Int)))
    (first | exact ⟨c0, c1, r1, r2⟩ | exact ⟨q0, q1, s1, s2⟩ | (refine ⟨?_, ?_, ?_, ?_⟩ <;> (repeat (refine (World.cell?_setCell_other _ _ _ _ (by simp <;> omega)).trans ?_)) <;> assumption))
    (first | (refine Calls.mono HG.out ?_; rintro e w1 ⟨hB, x, rfl, hv⟩
              have q0 : w1.cell? ⟨H, 0, none⟩ = some (.pointer (some ⟨R, 0, none⟩)) := (hB.cell (p := ⟨H, 0, none⟩) (show H < w.heap.size by omega)).trans c0
              have q1 : w1.cell? ⟨H + 1, 0, none⟩ = some (.func (.func G) #[] cap) := (hB.cell (p := ⟨H + 1, 0, none⟩) (show H + 1 < w.heap.size by omega)).trans c1
              have s1 : w1.cell? ⟨R, 1, none⟩ = some (.slice A n c) := (hB.cell (p := ⟨R, 1, none⟩) (show R < w.heap.size by omega)).trans r1
              have s2 : w1.cell? ⟨R, 2, none⟩ = some (.int .i64 (k : Int)) := (hB.cell (p := ⟨R, 2, none⟩) (show R < w.heap.size by omega)).trans r2
              have d2 := Blk.below (w := w.drew) b2 hB (show H + 1 + 1 < w.heap.size by omega)
              have d3 := Blk.below (w := w.drew) b3 hB (show H + 1 + 1 + 1 < w.heap.size by omega)
              have d4 := Blk.below (w := w.drew) b4 hB (show H + 1 + 1 + 1 + 1 < w.heap.size by omega)
              have e2 : w1.cell? ⟨H + 1 + 1, 0, none⟩ = some v0 := d2.cell 0
              have z2 := d2.frozen 0
              have e3 : (w1.setCell ⟨H + 1 + 1, 0, none⟩ (.int .i64 x)).cell? ⟨H + 1 + 1 + 1, 0, none⟩ = some (.int .i64 n0) := (d3.far (p := ⟨H + 1 + 1, 0, none⟩) (by simp <;> omega) (.int .i64 x)).cell 0
              have z3 : (w1.setCell ⟨H + 1 + 1, 0, none⟩ (.int .i64 x)).frozen? ⟨H + 1 + 1 + 1, 0, none⟩ = false := (d3.far (p := ⟨H + 1 + 1, 0, none⟩) (by simp <;> omega) (.int .i64 x)).frozen 0))
  all_goals
    go_end0
    have hB' : Below (H + 1 + 1) w w1 := (below_drew w |>.mono (by omega)).trans (hB.mono (show H + 1 + 1 ≤ w.heap.size by omega))
    exact ⟨(hB'.setCell (p := ⟨H + 1 + 1, 0, none⟩) (by simp <;> omega) _).setCell (p := ⟨H + 1 + 1 + 1, 0, none⟩) (by simp <;> omega) _, rfl, (d4.far (p := ⟨H + 1 + 1, 0, none⟩) (by simp <;> omega) _).far (p := ⟨H + 1 + 1 + 1, 0, none⟩) (by simp <;> omega) _,
      _, (d2.put 0 (.int .i64 x)).far (p := ⟨H + 1 + 1 + 1, 0, none⟩) (by simp <;> omega) _, (d3.far (p := ⟨H + 1 + 1, 0, none⟩) (by simp <;> omega) _).put 0 _, hV.set _ _ ⟨H + 1 + 1 + 1, 0, none⟩ _ (by simp <;> omega) (by simp <;> omega) (hV.set _ _ ⟨H + 1 + 1, 0, none⟩ _ (by simp <;> omega) (by simp <;> omega) hv)⟩

set_option maxRecDepth 100000 in
set_option maxHeartbeats 1000000 in
theorem onc_err_i (G : FuncId) (cap : Array Value) (H R n c k : Nat) (er : Int) (A : Option Addr) (w : World) (v0 : Value) (n0 : Int)
    (hcf : ∀ (args : Array Value) (w : World), (callFunc G args).run Try.prog w = .ok (.enter G args) w) (hk : k ≤ n) (_ : R < H)
    (hG : ∀ w', Below w.heap.size w w' → Calls Try.prog G (#[.slice (cutA A k c) (n - k) (c - k)] ++ cap) w' fun e w'' => Below w'.heap.size w' w'' ∧ e = .panicked (failure er))
    (b0 : Blk w H 47 #[.pointer (some ⟨R, 0, none⟩)]) (b1 : Blk w (H + 1) 84 #[.func (.func G) #[] cap]) (_ : Blk w (H + 1 + 1) 3 #[v0]) (_ : Blk w (H + 1 + 1 + 1) 3 #[.int .i64 n0]) (b4 : Blk w (H + 1 + 1 + 1 + 1) 28 #[.int .i64 0])
    (hr : Rdr w R A n c (k : Int) 0) :
    Calls Try.prog 79 #[.pointer (some ⟨H + 1, 0, none⟩), .pointer (some ⟨H, 0, none⟩), .pointer (some ⟨H + 1 + 1, 0, none⟩), .pointer (some ⟨H + 1 + 1 + 1, 0, none⟩)] w (OncErr w H er) := by
  have c0 : w.cell? ⟨H, 0, none⟩ = some (.pointer (some ⟨R, 0, none⟩)) := b0.cell 0
  have c1 : w.cell? ⟨H + 1, 0, none⟩ = some (.func (.func G) #[] cap) := b1.cell 0
  have r1 : w.cell? ⟨R, 1, none⟩ = some (.slice A n c) := hr.cell 1
  have r2 : w.cell? ⟨R, 2, none⟩ = some (.int .i64 (k : Int)) := hr.cell 2
  have l4 := b4.lt
  have hcut := run_cut (P := Try.prog) 24 5 Try.underlying24 (fun w => by simp [go_sem]) A n c .i64 (k : Int) (by omega) (by omega)
  simp only [Int.toNat_natCast] at hcut
  have HG := hide (hG w.drew (below_drew w))
  clear hG
  go_enter Try.func79, Try.ntmps79
  refine wp_region_held_drew (S := fun w' => w'.cell? ⟨H, 0, none⟩ = some (.pointer (some ⟨R, 0, none⟩)) ∧ w'.cell? ⟨H + 1, 0, none⟩ = some (.func (.func G) #[] cap) ∧ w'.cell? ⟨R, 1, none⟩ = some (.slice A n c) ∧ w'.cell? ⟨R, 2, none⟩ = some (.int .i64 (k : Int))) (by kernel_rfl) ⟨c0, c1, r1, r2⟩ (fun hHeld => ?_)
  refine wpAnyH_take (i := 0) (v := ?_) rfl (by kernel_rfl) (by kernel_rfl) (by kernel_rfl) (fun _ _ _ h => h) (Or.inl ⟨by rfl, ?_⟩) (by assumption) ?_
  rotate_left
  · (intro w hSw; (try dsimp only at hSw); go_simp; try with_reducible rfl)
  (try simp only [Act.put, List.setIfInBounds_toArray])
  refine wpAnyH_take (i := 1) (v := ?_) rfl (by kernel_rfl) (by kernel_rfl) (by kernel_rfl) (fun _ _ _ h => h) (Or.inl ⟨by rfl, ?_⟩) (by assumption) ?_
  rotate_left
  · (intro w hSw; (try dsimp only at hSw); go_simp; try with_reducible rfl)
  (try simp only [Act.put])
  refine wpAnyH_take (i := 2) (v := ?_) rfl (by kernel_rfl) (by kernel_rfl) (by kernel_rfl) (fun _ _ _ h => h) (Or.inl ⟨by rfl, ?_⟩) (by assumption) ?_
  rotate_left
  · (intro w hSw; (try dsimp only at hSw); go_simp; try with_reducible rfl)
  (try simp only [Act.put])
  refine wpAnyH_take (i := 3) (v := ?_) rfl (by kernel_rfl) (by kernel_rfl) (by kernel_rfl) (fun _ _ _ h => h) (Or.inl ⟨by rfl, ?_⟩) (by assumption) ?_
  rotate_left
  · (intro w hSw; (try dsimp only at hSw); go_simp; try with_reducible rfl)
  (try simp only [Act.put])
  refine wpAnyH_take (i := 4) (v := ?_) rfl (by kernel_rfl) (by kernel_rfl) (by kernel_rfl) (fun _ _ _ h => h) (Or.inl ⟨by rfl, ?_⟩) (by assumption) ?_
  rotate_left
  · (intro w hSw; (try dsimp only at hSw); go_simp; try with_reducible rfl)
  (try simp only [Act.put])
  refine wpAnyH_take (i := 5) (v := ?_) rfl (by kernel_rfl) (by kernel_rfl) (by kernel_rfl) (fun _ _ _ h => h) (Or.inl ⟨by rfl, ?_⟩) (by assumption) ?_
  rotate_left
  · (intro w hSw; (try dsimp only at hSw); go_simp; try with_reducible rfl)
  (try simp only [Act.put])
  refine wpAnyH_take (i := 6) (v := ?_) rfl (by kernel_rfl) (by kernel_rfl) (by kernel_rfl) (fun _ _ _ h => h) (Or.inl ⟨by rfl, ?_⟩) (by assumption) ?_
  rotate_left
  · (intro w hSw; (try dsimp only at hSw); go_simp; try with_reducible rfl)
  (try simp only [Act.put])
  refine wpAnyH_take (i := 7) (v := ?_) rfl (by kernel_rfl) (by kernel_rfl) (by kernel_rfl) (fun _ _ _ h => h) (Or.inl ⟨by rfl, ?_⟩) (by assumption) ?_
  rotate_left
  · (intro w hSw; (try dsimp only at hSw); go_simp; try with_reducible rfl)
  (try simp only [Act.put])
  refine wpAnyH_take (i := 8) (v := ?_) rfl (by kernel_rfl) (by kernel_rfl) (by kernel_rfl) (fun _ _ _ h => h) (Or.inl ⟨by rfl, ?_⟩) (by assumption) ?_
  rotate_left
  · (intro w hSw; (try dsimp only at hSw); go_simp; try with_reducible rfl)
  (try simp only [Act.put])
  refine wpAnyH_take (i := 9) (v := ?_) rfl (by kernel_rfl) (by kernel_rfl) (by kernel_rfl) (fun _ _ _ h => h) (Or.inl ⟨by rfl, ?_⟩) (by assumption) ?_
  rotate_left
  · (intro w hSw; (try dsimp only at hSw); go_simp; try with_reducible rfl)
  (try simp only [Act.put])
  refine wpAnyH_ready (rs := [10]) (by kernel_rfl) (by simp) (AllReadyH.cons rfl (fun K hK => ?_) AllReadyH.nil)
  go_simp
  refine Calls.mono HG.out ?_
  rintro e w1 ⟨hB, rfl⟩
  have d4 := Blk.below (w := w.drew) b4 hB (show H + 1 + 1 + 1 + 1 < w.heap.size by omega)
  have hB' : Below (H + 1 + 1) w w1 := (below_drew w |>.mono (by omega)).trans (hB.mono (show H + 1 + 1 ≤ w.heap.size by omega))
  exact ⟨rfl, hB', rfl, d4⟩


theorem gon_ok_i (G : FuncId) (cap : Array Value) (H R n c k k' : Nat) (A : Option Addr) (V : Value → World → Prop) (w : World) (v0 : Value) (n0 : Int)
    (hcf : ∀ (args : Array Value) (w : World), (callFunc G args).run Try.prog w = .ok (.enter G args) w) (hk : k ≤ n) (hR : R < H)
    (hG : ∀ w', Below w.heap.size w w' → w.heap.size + 1 ≤ w'.heap.size → Calls Try.prog G (#[.slice (cutA A k c) (n - k) (c - k)] ++ cap) w' fun e w'' => Below w'.heap.size w' w'' ∧ ∃ x, e = .returned (.tuple #[(.int .i64 x), .int .i64 (k' : Int)]) ∧ V (.int .i64 x) w'')
    (hV : Lasts2 H V)
    (b0 : Blk w H 47 #[.pointer (some ⟨R, 0, none⟩)]) (b1 : Blk w (H + 1) 84 #[.func (.func G) #[] cap]) (b2 : Blk w (H + 1 + 1) 3 #[v0]) (b3 : Blk w (H + 1 + 1 + 1) 3 #[.int .i64 n0])
    (hs : w.heap.size = H + 1 + 1 + 1 + 1)
    (hr : Rdr w R A n c (k : Int) 0) :
    Calls Try.prog 72 #[.func (.func 79) #[] #[.pointer (some ⟨H + 1, 0, none⟩), .pointer (some ⟨H, 0, none⟩), .pointer (some ⟨H + 1 + 1, 0, none⟩), .pointer (some ⟨H + 1 + 1 + 1, 0, none⟩)]] w fun e w' => e = .returned (.int .i64 0) ∧ Below (H + 1 + 1) w w' ∧ ∃ v, Blk w' (H + 1 + 1) 3 #[v] ∧ Blk w' (H + 1 + 1 + 1) 3 #[.int .i64 (k' : Int)] ∧ V v w' := by
  have hw : Below w.heap.size w (w.alloc (.cells #[.int .i64 0] 28)) := (Below.refl _ w).alloc (Nat.le_refl _) _
  have b4 : Blk (w.alloc (.cells #[.int .i64 0] 28)) (H + 1 + 1 + 1 + 1) 28 #[.int .i64 0] := by have := Blk.new w 28 #[.int .i64 0]; rw [hs] at this; exact this
  refine (guarded_any 79 _ w (OncOk (w.alloc (.cells #[.int .i64 0] 28)) H k' 3 V) (onc_ok_i G cap H R n c k k' A V _ v0 n0 hcf hk hR (fun w' h => hG w' (hw.trans (h.mono (by simp))) (by have := h.size; simpa using this)) hV (b0.alloc _) (b1.alloc _) (b2.alloc _) (b3.alloc _) b4 (Blk.alloc hr _)) (fun args w => by simp [callFunc, Try.func79, Try.f79, go_sem]) ?_).mono ?_
  · rintro e w' ⟨_, rfl, b5, _⟩
    rw [hs]
    exact ⟨.inl rfl, b5⟩
  · rintro e w' ⟨w0, h⟩
    rcases h with ⟨⟨hB, _, b5, v, d2, d3, hv⟩, rfl, u, rfl⟩ | ⟨c', ⟨_, e, _⟩, _⟩
    · rw [hs]
      exact ⟨rfl, ((hw.mono (by omega)).trans hB).setCell (p := ⟨H + 1 + 1 + 1 + 1, 0, none⟩) (by simp <;> omega) u, v, d2.far (p := ⟨H + 1 + 1 + 1 + 1, 0, none⟩) (by simp <;> omega) u, d3.far (p := ⟨H + 1 + 1 + 1 + 1, 0, none⟩) (by simp <;> omega) u, hV.set _ _ ⟨H + 1 + 1 + 1 + 1, 0, none⟩ _ (by simp <;> omega) (by simp <;> omega) hv⟩
    · cases e

theorem gon_err_i (G : FuncId) (cap : Array Value) (H R n c k : Nat) (er : Int) (A : Option Addr) (w : World) (v0 : Value) (n0 : Int)
    (hcf : ∀ (args : Array Value) (w : World), (callFunc G args).run Try.prog w = .ok (.enter G args) w) (hk : k ≤ n) (hR : R < H)
    (hG : ∀ w', Below w.heap.size w w' → Calls Try.prog G (#[.slice (cutA A k c) (n - k) (c - k)] ++ cap) w' fun e w'' => Below w'.heap.size w' w'' ∧ e = .panicked (failure er))
    (b0 : Blk w H 47 #[.pointer (some ⟨R, 0, none⟩)]) (b1 : Blk w (H + 1) 84 #[.func (.func G) #[] cap]) (b2 : Blk w (H + 1 + 1) 3 #[v0]) (b3 : Blk w (H + 1 + 1 + 1) 3 #[.int .i64 n0])
    (hs : w.heap.size = H + 1 + 1 + 1 + 1)
    (hr : Rdr w R A n c (k : Int) 0) :
    Calls Try.prog 72 #[.func (.func 79) #[] #[.pointer (some ⟨H + 1, 0, none⟩), .pointer (some ⟨H, 0, none⟩), .pointer (some ⟨H + 1 + 1, 0, none⟩), .pointer (some ⟨H + 1 + 1 + 1, 0, none⟩)]] w fun e w' => e = .returned (.int .i64 er) ∧ Below (H + 1 + 1) w w' := by
  have hw : Below w.heap.size w (w.alloc (.cells #[.int .i64 0] 28)) := (Below.refl _ w).alloc (Nat.le_refl _) _
  have b4 : Blk (w.alloc (.cells #[.int .i64 0] 28)) (H + 1 + 1 + 1 + 1) 28 #[.int .i64 0] := by have := Blk.new w 28 #[.int .i64 0]; rw [hs] at this; exact this
  refine (guarded_any 79 _ w (OncErr (w.alloc (.cells #[.int .i64 0] 28)) H er) (onc_err_i G cap H R n c k er A _ v0 n0 hcf hk hR (fun w' h => hG w' (hw.trans (h.mono (by simp)))) (b0.alloc _) (b1.alloc _) (b2.alloc _) (b3.alloc _) b4 (Blk.alloc hr _)) (fun args w => by simp [callFunc, Try.func79, Try.f79, go_sem]) ?_).mono ?_
  · rintro e w' ⟨_, rfl, b5⟩
    rw [hs]
    exact ⟨.inr ⟨er, rfl⟩, b5⟩
  · rintro e w' ⟨w0, h⟩
    rcases h with ⟨⟨hB, e, b5⟩, _⟩ | ⟨c', ⟨hB, e, b5⟩, rfl, u, rfl⟩
    · cases e
    · obtain rfl : c' = er := by simpa [failure] using e
      rw [hs]
      exact ⟨rfl, ((hw.mono (by omega)).trans hB).setCell (p := ⟨H + 1 + 1 + 1 + 1, 0, none⟩) (by simp <;> omega) u⟩


set_option maxRecDepth 100000 in
set_option maxHeartbeats 1000000 in
theorem on_ok_i (G : FuncId) (cap : Array Value) (R n c k k' : Nat) (A : Option Addr) (V : Value → World → Prop) (w : World)
    (hcf : ∀ (args : Array Value) (w : World), (callFunc G args).run Try.prog w = .ok (.enter G args) w) (hk : k ≤ n) (hkk : k + k' ≤ 140737488355328)
    (hG : ∀ w', Below w.heap.size w w' → w.heap.size + 1 + 1 + 1 + 1 + 1 ≤ w'.heap.size → Calls Try.prog G (#[.slice (cutA A k c) (n - k) (c - k)] ++ cap) w' fun e w'' => Below w'.heap.size w' w'' ∧ ∃ x, e = .returned (.tuple #[(.int .i64 x), .int .i64 (k' : Int)]) ∧ V (.int .i64 x) w'')
    (hV : Lasts2 w.heap.size V) (hVR : ∀ v W off u, V v W → V v (W.setCell ⟨R, off, none⟩ u)) (hsh : ∀ v W, V v W → ∃ x, v = (.int .i64 x))
    (hr : Rdr w R A n c (k : Int) 0) :
    Calls Try.prog 62 #[.pointer (some ⟨R, 0, none⟩), .func (.func G) #[] cap] w fun e w' => w.grownBy w' (some R) ∧ Rdr w' R A n c ((k : Int) + (k' : Int)) 0 ∧ ∃ v, e = .returned v ∧ V v w' := by
  have hmf : ∀ (fn : Fn) (first cap : Array Value) (w : World), (Instr.makeFunc fn first cap).run Try.prog w = .ok (.func fn first cap) w := fun _ _ _ _ => rfl
  have hRl := hr.lt
  go_enter Try.func62, Try.ntmps62
  go_wp2_with fail
  generalize hW3 : ((w.alloc (.cells #[.pointer (some ⟨R, 0, none⟩)] 47)).alloc (.cells #[.func (.func G) #[] cap] 84)).alloc (.cells #[(.int .i64 0)] 3) = W3
  have b0 : Blk W3 w.heap.size 47 #[.pointer (some ⟨R, 0, none⟩)] := by rw [← hW3]; exact ((Blk.new w 47 _).alloc _).alloc _
  have b1 : Blk W3 (w.heap.size + 1) 84 #[.func (.func G) #[] cap] := by
    rw [← hW3]
    have := Blk.new (w.alloc (.cells #[.pointer (some ⟨R, 0, none⟩)] 47)) 84 #[.func (.func G) #[] cap]
    rw [World.size_alloc] at this
    exact this.alloc _
  have b2 : Blk W3 (w.heap.size + 1 + 1) 3 #[(.int .i64 0)] := by
    rw [← hW3]
    have := Blk.new ((w.alloc (.cells #[.pointer (some ⟨R, 0, none⟩)] 47)).alloc (.cells #[.func (.func G) #[] cap] 84)) 3 #[(.int .i64 0)]
    rw [World.size_alloc, World.size_alloc] at this
    exact this
  have hs3 : W3.heap.size = w.heap.size + 1 + 1 + 1 := by rw [← hW3]; simp
  have hB3 : Below w.heap.size w W3 := by
    rw [← hW3]
    exact (((Below.refl _ w).alloc (Nat.le_refl _) _).alloc (by simp <;> omega) _).alloc (by simp <;> omega) _
  clear hW3
  have hr3 := hr.below hB3 hRl
  have c0 : W3.cell? ⟨w.heap.size, 0, none⟩ = some (.pointer (some ⟨R, 0, none⟩)) := b0.cell 0
  have e3 : W3.cell? ⟨R, 3, none⟩ = some (.int .i64 0) := hr3.cell 3
  refine (is_any R A n c _ _ W3 hr3).mono ?_
  rintro e w9 ⟨rfl, rfl⟩
  go_wp2_with fail
  have b0 := b0.alloc (.cells #[.int .i64 0] 3)
  have b1 := b1.alloc (.cells #[.int .i64 0] 3)
  have b2 := b2.alloc (.cells #[.int .i64 0] 3)
  have b3 := Blk.new W3 3 #[.int .i64 0]
  have hB4 := hB3.alloc hB3.size (.cells #[.int .i64 0] 3)
  have hs4 : (W3.alloc (.cells #[.int .i64 0] 3)).heap.size = w.heap.size + 1 + 1 + 1 + 1 := by rw [World.size_alloc, hs3]
  rw [hs3] at b3
  have hr4 : Rdr (W3.alloc (.cells #[.int .i64 0] 3)) R A n c (k : Int) 0 := Blk.alloc hr3 _
  clear c0 e3 hr3 hB3 hs3
  generalize W3.alloc (.cells #[.int .i64 0] 3) = W4 at *
  have c0 : W4.cell? ⟨w.heap.size, 0, none⟩ = some (.pointer (some ⟨R, 0, none⟩)) := b0.cell 0
  have hsW : w.heap.size ≤ W4.heap.size := by omega
  have G5 := hide (gon_ok_i G cap w.heap.size R n c k k' A V W4.drew ((.int .i64 0)) 0 hcf hk hRl (fun w' h h1 => hG w' (hB4.trans ((below_drew W4).trans h |>.mono hsW)) (by have : W4.drew.heap.size = W4.heap.size := rfl; omega)) hV b0 b1 b2 b3 hs4 hr4)
  clear hG
  go_region_held3 (fun w' => w'.cell? ⟨w.heap.size, 0, none⟩ = some (.pointer (some ⟨R, 0, none⟩)))
    (first | exact c0 | exact q0 | (refine (World.cell?_setCell_other _ _ _ _ (by simp <;> omega)).trans ?_; assumption))
    (first | (go_at_call 72; refine Calls.mono G5.out ?_; rintro e w5 ⟨rfl, hB5, v, d2, d3, hv⟩
              have q0 : w5.cell? ⟨w.heap.size, 0, none⟩ = some (.pointer (some ⟨R, 0, none⟩)) := (hB5.cell (p := ⟨w.heap.size, 0, none⟩) (show w.heap.size < w.heap.size + 1 + 1 by omega)).trans c0
              have hr5 := Rdr.below (w := W4.drew) hr4 hB5 (by omega)
              have q3 : w5.cell? ⟨R, 3, none⟩ = some (.int .i64 0) := hr5.cell 3
              have z3 : w5.frozen? ⟨R, 3, none⟩ = false := hr5.frozen 3))
  have hG5 : w.grownBy w5 (some R) := ⟨hB5.os.trans hB4.os, hB5.tape.trans hB4.tape, hB5.output.trans hB4.output, by have := hB5.size; simp at this; omega, fun i hi _ => (hB5.block i (by omega)).trans (hB4.block i hi)⟩
  have hG6 := grown_set hG5 (p := ⟨R, 3, none⟩) (.inl rfl) (.int .i64 0)
  have hr6 := hr5.setE 0
  have d1 := (Blk.below (w := W4.drew) b0 hB5 (by omega)).far (p := ⟨R, 3, none⟩) (by simp <;> omega) (.int .i64 0)
  have d2 := d2.far (p := ⟨R, 3, none⟩) (by simp <;> omega) (.int .i64 0)
  have d3 := d3.far (p := ⟨R, 3, none⟩) (by simp <;> omega) (.int .i64 0)
  have hv6 := hVR _ _ 3 (.int .i64 0) hv
  clear q0 q3 z3 c0 hr5 hr4 b0 b1 b2 b3 hs4 hB5 hB4 hsW hv G5 hG5
  generalize w5.setCell ⟨R, 3, none⟩ (.int .i64 0) = W6 at *
  have c0 : W6.cell? ⟨w.heap.size, 0, none⟩ = some (.pointer (some ⟨R, 0, none⟩)) := d1.cell 0
  have q2 : W6.cell? ⟨R, 2, none⟩ = some (.int .i64 (k : Int)) := hr6.cell 2
  have q3 : W6.cell? ⟨R, 3, none⟩ = some (.int .i64 0) := hr6.cell 3
  have z2 : W6.frozen? ⟨R, 2, none⟩ = false := hr6.frozen 2
  have qn : W6.cell? ⟨w.heap.size + 1 + 1 + 1, 0, none⟩ = some (.int .i64 (k' : Int)) := d3.cell 0
  obtain ⟨x, rfl⟩ := hsh _ _ hv6
  have qv := d2.cell 0
  go_wp2
  go_region
  all_goals
    have qv' : (W6.setCell ⟨R, 2, none⟩ (.int .i64 ((k : Int) + (k' : Int)))).cell? ⟨w.heap.size + 1 + 1, 0, none⟩ = some (.int .i64 x) := (d2.far (p := ⟨R, 2, none⟩) (by simp <;> omega) _).cell 0
    go_wp2
    go_ret
    exact ⟨grown_drew (grown_set hG6 (p := ⟨R, 2, none⟩) (.inl rfl) _), hr6.setA _, (.int .i64 x), rfl, hV.drew _ _ 1 (hVR _ _ 2 _ hv6)⟩

set_option maxRecDepth 100000 in
set_option maxHeartbeats 1000000 in
theorem on_err_i (G : FuncId) (cap : Array Value) (R n c k : Nat) (er : Int) (A : Option Addr) (w : World)
    (hcf : ∀ (args : Array Value) (w : World), (callFunc G args).run Try.prog w = .ok (.enter G args) w) (hk : k ≤ n) (her : ¬ er = 0)
    (hG : ∀ w', Below w.heap.size w w' → Calls Try.prog G (#[.slice (cutA A k c) (n - k) (c - k)] ++ cap) w' fun e w'' => Below w'.heap.size w' w'' ∧ e = .panicked (failure er))
    (hr : Rdr w R A n c (k : Int) 0) :
    Calls Try.prog 62 #[.pointer (some ⟨R, 0, none⟩), .func (.func G) #[] cap] w fun e w' => w.grownBy w' (some R) ∧ Rdr w' R A n c (k : Int) er ∧ e = .returned (.int .i64 0) := by
  have hmf : ∀ (fn : Fn) (first cap : Array Value) (w : World), (Instr.makeFunc fn first cap).run Try.prog w = .ok (.func fn first cap) w := fun _ _ _ _ => rfl
  have hRl := hr.lt
  go_enter Try.func62, Try.ntmps62
  go_wp2_with fail
  generalize hW3 : ((w.alloc (.cells #[.pointer (some ⟨R, 0, none⟩)] 47)).alloc (.cells #[.func (.func G) #[] cap] 84)).alloc (.cells #[(.int .i64 0)] 3) = W3
  have b0 : Blk W3 w.heap.size 47 #[.pointer (some ⟨R, 0, none⟩)] := by rw [← hW3]; exact ((Blk.new w 47 _).alloc _).alloc _
  have b1 : Blk W3 (w.heap.size + 1) 84 #[.func (.func G) #[] cap] := by
    rw [← hW3]
    have := Blk.new (w.alloc (.cells #[.pointer (some ⟨R, 0, none⟩)] 47)) 84 #[.func (.func G) #[] cap]
    rw [World.size_alloc] at this
    exact this.alloc _
  have b2 : Blk W3 (w.heap.size + 1 + 1) 3 #[(.int .i64 0)] := by
    rw [← hW3]
    have := Blk.new ((w.alloc (.cells #[.pointer (some ⟨R, 0, none⟩)] 47)).alloc (.cells #[.func (.func G) #[] cap] 84)) 3 #[(.int .i64 0)]
    rw [World.size_alloc, World.size_alloc] at this
    exact this
  have hs3 : W3.heap.size = w.heap.size + 1 + 1 + 1 := by rw [← hW3]; simp
  have hB3 : Below w.heap.size w W3 := by
    rw [← hW3]
    exact (((Below.refl _ w).alloc (Nat.le_refl _) _).alloc (by simp <;> omega) _).alloc (by simp <;> omega) _
  clear hW3
  have hr3 := hr.below hB3 hRl
  have c0 : W3.cell? ⟨w.heap.size, 0, none⟩ = some (.pointer (some ⟨R, 0, none⟩)) := b0.cell 0
  have e3 : W3.cell? ⟨R, 3, none⟩ = some (.int .i64 0) := hr3.cell 3
  refine (is_any R A n c _ _ W3 hr3).mono ?_
  rintro e w9 ⟨rfl, rfl⟩
  go_wp2_with fail
  have b0 := b0.alloc (.cells #[.int .i64 0] 3)
  have b1 := b1.alloc (.cells #[.int .i64 0] 3)
  have b2 := b2.alloc (.cells #[.int .i64 0] 3)
  have b3 := Blk.new W3 3 #[.int .i64 0]
  have hB4 := hB3.alloc hB3.size (.cells #[.int .i64 0] 3)
  have hs4 : (W3.alloc (.cells #[.int .i64 0] 3)).heap.size = w.heap.size + 1 + 1 + 1 + 1 := by rw [World.size_alloc, hs3]
  rw [hs3] at b3
  have hr4 : Rdr (W3.alloc (.cells #[.int .i64 0] 3)) R A n c (k : Int) 0 := Blk.alloc hr3 _
  clear c0 e3 hr3 hB3 hs3
  generalize W3.alloc (.cells #[.int .i64 0] 3) = W4 at *
  have c0 : W4.cell? ⟨w.heap.size, 0, none⟩ = some (.pointer (some ⟨R, 0, none⟩)) := b0.cell 0
  have hsW : w.heap.size ≤ W4.heap.size := by omega
  have G5 := hide (gon_err_i G cap w.heap.size R n c k er A W4.drew ((.int .i64 0)) 0 hcf hk hRl (fun w' h => hG w' (hB4.trans ((below_drew W4).trans h |>.mono hsW))) b0 b1 b2 b3 hs4 hr4)
  clear hG
  go_region_held3 (fun w' => w'.cell? ⟨w.heap.size, 0, none⟩ = some (.pointer (some ⟨R, 0, none⟩)))
    (first | exact c0 | exact q0 | (refine (World.cell?_setCell_other _ _ _ _ (by simp <;> omega)).trans ?_; assumption))
    (first | (go_at_call 72; refine Calls.mono G5.out ?_; rintro e w5 ⟨rfl, hB5⟩
              have q0 : w5.cell? ⟨w.heap.size, 0, none⟩ = some (.pointer (some ⟨R, 0, none⟩)) := (hB5.cell (p := ⟨w.heap.size, 0, none⟩) (show w.heap.size < w.heap.size + 1 + 1 by omega)).trans c0
              have hr5 := Rdr.below (w := W4.drew) hr4 hB5 (by omega)
              have q3 : w5.cell? ⟨R, 3, none⟩ = some (.int .i64 0) := hr5.cell 3
              have z3 : w5.frozen? ⟨R, 3, none⟩ = false := hr5.frozen 3))
  have hG5 : w.grownBy w5 (some R) := ⟨hB5.os.trans hB4.os, hB5.tape.trans hB4.tape, hB5.output.trans hB4.output, by have := hB5.size; simp at this; omega, fun i hi _ => (hB5.block i (by omega)).trans (hB4.block i hi)⟩
  have hG6 := grown_set hG5 (p := ⟨R, 3, none⟩) (.inl rfl) (.int .i64 er)
  have hr6 := hr5.setE er
  have d1 := (Blk.below (w := W4.drew) b0 hB5 (by omega)).far (p := ⟨R, 3, none⟩) (by simp <;> omega) (.int .i64 er)
  clear q0 q3 z3 c0 hr5 hr4 b0 b1 b2 b3 hs4 hB5 hB4 hsW G5 hG5
  generalize w5.setCell ⟨R, 3, none⟩ (.int .i64 er) = W6 at *
  have c0 : W6.cell? ⟨w.heap.size, 0, none⟩ = some (.pointer (some ⟨R, 0, none⟩)) := d1.cell 0
  have q3 : W6.cell? ⟨R, 3, none⟩ = some (.int .i64 er) := hr6.cell 3
  go_wp2
  go_ret
  exact ⟨hG6, hr6, rfl⟩

set_option maxRecDepth 100000 in
set_option maxHeartbeats 1000000 in
theorem on_had_i (f : Value) (R n c k : Nat) (er : Int) (A : Option Addr) (w : World) (hf : ∃ G cap, f = .func (.func G) #[] cap) (her : ¬ er = 0)
    (hr : Rdr w R A n c (k : Int) er) :
    Calls Try.prog 62 #[.pointer (some ⟨R, 0, none⟩), f] w fun e w' => w.grownBy w' (some R) ∧ Rdr w' R A n c (k : Int) er ∧ e = .returned (.int .i64 0) := by
  obtain ⟨G, cap, rfl⟩ := hf
  have hmf : ∀ (fn : Fn) (first cap : Array Value) (w : World), (Instr.makeFunc fn first cap).run Try.prog w = .ok (.func fn first cap) w := fun _ _ _ _ => rfl
  have hRl := hr.lt
  go_enter Try.func62, Try.ntmps62
  go_wp2_with fail
  generalize hW3 : ((w.alloc (.cells #[.pointer (some ⟨R, 0, none⟩)] 47)).alloc (.cells #[.func (.func G) #[] cap] 84)).alloc (.cells #[(.int .i64 0)] 3) = W3
  have b0 : Blk W3 w.heap.size 47 #[.pointer (some ⟨R, 0, none⟩)] := by rw [← hW3]; exact ((Blk.new w 47 _).alloc _).alloc _
  have b1 : Blk W3 (w.heap.size + 1) 84 #[.func (.func G) #[] cap] := by
    rw [← hW3]
    have := Blk.new (w.alloc (.cells #[.pointer (some ⟨R, 0, none⟩)] 47)) 84 #[.func (.func G) #[] cap]
    rw [World.size_alloc] at this
    exact this.alloc _
  have b2 : Blk W3 (w.heap.size + 1 + 1) 3 #[(.int .i64 0)] := by
    rw [← hW3]
    have := Blk.new ((w.alloc (.cells #[.pointer (some ⟨R, 0, none⟩)] 47)).alloc (.cells #[.func (.func G) #[] cap] 84)) 3 #[(.int .i64 0)]
    rw [World.size_alloc, World.size_alloc] at this
    exact this
  have hs3 : W3.heap.size = w.heap.size + 1 + 1 + 1 := by rw [← hW3]; simp
  have hB3 : Below w.heap.size w W3 := by
    rw [← hW3]
    exact (((Below.refl _ w).alloc (Nat.le_refl _) _).alloc (by simp <;> omega) _).alloc (by simp <;> omega) _
  clear hW3
  have hr3 := hr.below hB3 hRl
  have c0 : W3.cell? ⟨w.heap.size, 0, none⟩ = some (.pointer (some ⟨R, 0, none⟩)) := b0.cell 0
  have e3 : W3.cell? ⟨R, 3, none⟩ = some (.int .i64 er) := hr3.cell 3
  refine (is_any R A n c _ _ W3 hr3).mono ?_
  rintro e w9 ⟨rfl, rfl⟩
  go_wp2
  go_ret
  exact ⟨grown_of_below hB3 _, hr3, rfl⟩


set_option maxRecDepth 100000 in
set_option maxHeartbeats 1000000 in
theorem onc_ok_b (G : FuncId) (cap : Array Value) (H R n c k k' : Nat) (A : Option Addr) (V : Value → World → Prop) (w : World) (v0 : Value) (n0 : Int)
    (hcf : ∀ (args : Array Value) (w : World), (callFunc G args).run Try.prog w = .ok (.enter G args) w) (hk : k ≤ n) (hR : R < H)
    (hG : ∀ w', Below w.heap.size w w' → Calls Try.prog G (#[.slice (cutA A k c) (n - k) (c - k)] ++ cap) w' fun e w'' => Below w'.heap.size w' w'' ∧ ∃ (X : Option Addr) (m mc : Nat), e = .returned (.tuple #[(.slice X m mc), .int .i64 (k' : Int)]) ∧ V (.slice X m mc) w'')
    (hV : Lasts2 H V)
    (b0 : Blk w H 47 #[.pointer (some ⟨R, 0, none⟩)]) (b1 : Blk w (H + 1) 87 #[.func (.func G) #[] cap]) (b2 : Blk w (H + 1 + 1) 24 #[v0]) (b3 : Blk w (H + 1 + 1 + 1) 3 #[.int .i64 n0]) (b4 : Blk w (H + 1 + 1 + 1 + 1) 28 #[.int .i64 0])
    (hr : Rdr w R A n c (k : Int) 0) :
    Calls Try.prog 80 #[.pointer (some ⟨H + 1, 0, none⟩), .pointer (some ⟨H, 0, none⟩), .pointer (some ⟨H + 1 + 1, 0, none⟩), .pointer (some ⟨H + 1 + 1 + 1, 0, none⟩)] w (OncOk w H k' 24 V) := by
  have c0 : w.cell? ⟨H, 0, none⟩ = some (.pointer (some ⟨R, 0, none⟩)) := b0.cell 0
  have c1 : w.cell? ⟨H + 1, 0, none⟩ = some (.func (.func G) #[] cap) := b1.cell 0
  have r1 : w.cell? ⟨R, 1, none⟩ = some (.slice A n c) := hr.cell 1
  have r2 : w.cell? ⟨R, 2, none⟩ = some (.int .i64 (k : Int)) := hr.cell 2
  have l4 := b4.lt
  have hcut := run_cut (P := Try.prog) 24 5 Try.underlying24 (fun w => by simp [go_sem]) A n c .i64 (k : Int) (by omega) (by omega)
  simp only [Int.toNat_natCast] at hcut
  have HG := hide (hG w.drew (below_drew w))
  clear hG
  go_enter Try.func80, Try.ntmps80
  go_region_held3 (fun w' => w'.cell? ⟨H, 0, none⟩ = some (.pointer (some ⟨R, 0, none⟩)) ∧ w'.cell? ⟨H + 1, 0, none⟩ = some (.func (.func G) #[] cap) ∧ w'.cell? ⟨R, 1, none⟩ = some (.slice A n c) ∧ w'.cell? ⟨R, 2, none⟩ = some (.int .i64 (k : Int)))
    (first | exact ⟨c0, c1, r1, r2⟩ | exact ⟨q0, q1, s1, s2⟩ | (refine ⟨?_, ?_, ?_, ?_⟩ <;> (repeat (refine (World.cell?_setCell_other _ _ _ _ (by simp <;> omega)).trans ?_)) <;> assumption))
    (first | (refine Calls.mono HG.out ?_; rintro e w1 ⟨hB, X, m, mc, rfl, hv⟩
              have q0 : w1.cell? ⟨H, 0, none⟩ = some (.pointer (some ⟨R, 0, none⟩)) := (hB.cell (p := ⟨H, 0, none⟩) (show H < w.heap.size by omega)).trans c0
              have q1 : w1.cell? ⟨H + 1, 0, none⟩ = some (.func (.func G) #[] cap) := (hB.cell (p := ⟨H + 1, 0, none⟩) (show H + 1 < w.heap.size by omega)).trans c1
              have s1 : w1.cell? ⟨R, 1, none⟩ = some (.slice A n c) := (hB.cell (p := ⟨R, 1, none⟩) (show R < w.heap.size by omega)).trans r1
              have s2 : w1.cell? ⟨R, 2, none⟩ = some (.int .i64 (k : Int)) := (hB.cell (p := ⟨R, 2, none⟩) (show R < w.heap.size by omega)).trans r2
              have d2 := Blk.below (w := w.drew) b2 hB (show H + 1 + 1 < w.heap.size by omega)
              have d3 := Blk.below (w := w.drew) b3 hB (show H + 1 + 1 + 1 < w.heap.size by omega)
              have d4 := Blk.below (w := w.drew) b4 hB (show H + 1 + 1 + 1 + 1 < w.heap.size by omega)
              have e2 : w1.cell? ⟨H + 1 + 1, 0, none⟩ = some v0 := d2.cell 0
              have z2 := d2.frozen 0
              have e3 : (w1.setCell ⟨H + 1 + 1, 0, none⟩ (.slice X m mc)).cell? ⟨H + 1 + 1 + 1, 0, none⟩ = some (.int .i64 n0) := (d3.far (p := ⟨H + 1 + 1, 0, none⟩) (by simp <;> omega) (.slice X m mc)).cell 0
              have z3 : (w1.setCell ⟨H + 1 + 1, 0, none⟩ (.slice X m mc)).frozen? ⟨H + 1 + 1 + 1, 0, none⟩ = false := (d3.far (p := ⟨H + 1 + 1, 0, none⟩) (by simp <;> omega) (.slice X m mc)).frozen 0))
  all_goals
    go_end0
    have hB' : Below (H + 1 + 1) w w1 := (below_drew w |>.mono (by omega)).trans (hB.mono (show H + 1 + 1 ≤ w.heap.size by omega))
    exact ⟨(hB'.setCell (p := ⟨H + 1 + 1, 0, none⟩) (by simp <;> omega) _).setCell (p := ⟨H + 1 + 1 + 1, 0, none⟩) (by simp <;> omega) _, rfl, (d4.far (p := ⟨H + 1 + 1, 0, none⟩) (by simp <;> omega) _).far (p := ⟨H + 1 + 1 + 1, 0, none⟩) (by simp <;> omega) _,
      _, (d2.put 0 (.slice X m mc)).far (p := ⟨H + 1 + 1 + 1, 0, none⟩) (by simp <;> omega) _, (d3.far (p := ⟨H + 1 + 1, 0, none⟩) (by simp <;> omega) _).put 0 _, hV.set _ _ ⟨H + 1 + 1 + 1, 0, none⟩ _ (by simp <;> omega) (by simp <;> omega) (hV.set _ _ ⟨H + 1 + 1, 0, none⟩ _ (by simp <;> omega) (by simp <;> omega) hv)⟩

set_option maxRecDepth 100000 in
set_option maxHeartbeats 1000000 in
theorem onc_err_b (G : FuncId) (cap : Array Value) (H R n c k : Nat) (er : Int) (A : Option Addr) (w : World) (v0 : Value) (n0 : Int)
    (hcf : ∀ (args : Array Value) (w : World), (callFunc G args).run Try.prog w = .ok (.enter G args) w) (hk : k ≤ n) (_ : R < H)
    (hG : ∀ w', Below w.heap.size w w' → Calls Try.prog G (#[.slice (cutA A k c) (n - k) (c - k)] ++ cap) w' fun e w'' => Below w'.heap.size w' w'' ∧ e = .panicked (failure er))
    (b0 : Blk w H 47 #[.pointer (some ⟨R, 0, none⟩)]) (b1 : Blk w (H + 1) 87 #[.func (.func G) #[] cap]) (_ : Blk w (H + 1 + 1) 24 #[v0]) (_ : Blk w (H + 1 + 1 + 1) 3 #[.int .i64 n0]) (b4 : Blk w (H + 1 + 1 + 1 + 1) 28 #[.int .i64 0])
    (hr : Rdr w R A n c (k : Int) 0) :
    Calls Try.prog 80 #[.pointer (some ⟨H + 1, 0, none⟩), .pointer (some ⟨H, 0, none⟩), .pointer (some ⟨H + 1 + 1, 0, none⟩), .pointer (some ⟨H + 1 + 1 + 1, 0, none⟩)] w (OncErr w H er) := by
  have c0 : w.cell? ⟨H, 0, none⟩ = some (.pointer (some ⟨R, 0, none⟩)) := b0.cell 0
  have c1 : w.cell? ⟨H + 1, 0, none⟩ = some (.func (.func G) #[] cap) := b1.cell 0
  have r1 : w.cell? ⟨R, 1, none⟩ = some (.slice A n c) := hr.cell 1
  have r2 : w.cell? ⟨R, 2, none⟩ = some (.int .i64 (k : Int)) := hr.cell 2
  have l4 := b4.lt
  have hcut := run_cut (P := Try.prog) 24 5 Try.underlying24 (fun w => by simp [go_sem]) A n c .i64 (k : Int) (by omega) (by omega)
  simp only [Int.toNat_natCast] at hcut
  have HG := hide (hG w.drew (below_drew w))
  clear hG
  go_enter Try.func80, Try.ntmps80
  refine wp_region_held_drew (S := fun w' => w'.cell? ⟨H, 0, none⟩ = some (.pointer (some ⟨R, 0, none⟩)) ∧ w'.cell? ⟨H + 1, 0, none⟩ = some (.func (.func G) #[] cap) ∧ w'.cell? ⟨R, 1, none⟩ = some (.slice A n c) ∧ w'.cell? ⟨R, 2, none⟩ = some (.int .i64 (k : Int))) (by kernel_rfl) ⟨c0, c1, r1, r2⟩ (fun hHeld => ?_)
  refine wpAnyH_take (i := 0) (v := ?_) rfl (by kernel_rfl) (by kernel_rfl) (by kernel_rfl) (fun _ _ _ h => h) (Or.inl ⟨by rfl, ?_⟩) (by assumption) ?_
  rotate_left
  · (intro w hSw; (try dsimp only at hSw); go_simp; try with_reducible rfl)
  (try simp only [Act.put, List.setIfInBounds_toArray])
  refine wpAnyH_take (i := 1) (v := ?_) rfl (by kernel_rfl) (by kernel_rfl) (by kernel_rfl) (fun _ _ _ h => h) (Or.inl ⟨by rfl, ?_⟩) (by assumption) ?_
  rotate_left
  · (intro w hSw; (try dsimp only at hSw); go_simp; try with_reducible rfl)
  (try simp only [Act.put])
  refine wpAnyH_take (i := 2) (v := ?_) rfl (by kernel_rfl) (by kernel_rfl) (by kernel_rfl) (fun _ _ _ h => h) (Or.inl ⟨by rfl, ?_⟩) (by assumption) ?_
  rotate_left
  · (intro w hSw; (try dsimp only at hSw); go_simp; try with_reducible rfl)
  (try simp only [Act.put])
  refine wpAnyH_take (i := 3) (v := ?_) rfl (by kernel_rfl) (by kernel_rfl) (by kernel_rfl) (fun _ _ _ h => h) (Or.inl ⟨by rfl, ?_⟩) (by assumption) ?_
  rotate_left
  · (intro w hSw; (try dsimp only at hSw); go_simp; try with_reducible rfl)
  (try simp only [Act.put])
  refine wpAnyH_take (i := 4) (v := ?_) rfl (by kernel_rfl) (by kernel_rfl) (by kernel_rfl) (fun _ _ _ h => h) (Or.inl ⟨by rfl, ?_⟩) (by assumption) ?_
  rotate_left
  · (intro w hSw; (try dsimp only at hSw); go_simp; try with_reducible rfl)
  (try simp only [Act.put])
  refine wpAnyH_take (i := 5) (v := ?_) rfl (by kernel_rfl) (by kernel_rfl) (by kernel_rfl) (fun _ _ _ h => h) (Or.inl ⟨by rfl, ?_⟩) (by assumption) ?_
  rotate_left
  · (intro w hSw; (try dsimp only at hSw); go_simp; try with_reducible rfl)
  (try simp only [Act.put])
  refine wpAnyH_take (i := 6) (v := ?_) rfl (by kernel_rfl) (by kernel_rfl) (by kernel_rfl) (fun _ _ _ h => h) (Or.inl ⟨by rfl, ?_⟩) (by assumption) ?_
  rotate_left
  · (intro w hSw; (try dsimp only at hSw); go_simp; try with_reducible rfl)
  (try simp only [Act.put])
  refine wpAnyH_take (i := 7) (v := ?_) rfl (by kernel_rfl) (by kernel_rfl) (by kernel_rfl) (fun _ _ _ h => h) (Or.inl ⟨by rfl, ?_⟩) (by assumption) ?_
  rotate_left
  · (intro w hSw; (try dsimp only at hSw); go_simp; try with_reducible rfl)
  (try simp only [Act.put])
  refine wpAnyH_take (i := 8) (v := ?_) rfl (by kernel_rfl) (by kernel_rfl) (by kernel_rfl) (fun _ _ _ h => h) (Or.inl ⟨by rfl, ?_⟩) (by assumption) ?_
  rotate_left
  · (intro w hSw; (try dsimp only at hSw); go_simp; try with_reducible rfl)
  (try simp only [Act.put])
  refine wpAnyH_take (i := 9) (v := ?_) rfl (by kernel_rfl) (by kernel_rfl) (by kernel_rfl) (fun _ _ _ h => h) (Or.inl ⟨by rfl, ?_⟩) (by assumption) ?_
  rotate_left
  · (intro w hSw; (try dsimp only at hSw); go_simp; try with_reducible rfl)
  (try simp only [Act.put])
  refine wpAnyH_ready (rs := [10]) (by kernel_rfl) (by simp) (AllReadyH.cons rfl (fun K hK => ?_) AllReadyH.nil)
  go_simp
  refine Calls.mono HG.out ?_
  rintro e w1 ⟨hB, rfl⟩
  have d4 := Blk.below (w := w.drew) b4 hB (show H + 1 + 1 + 1 + 1 < w.heap.size by omega)
  have hB' : Below (H + 1 + 1) w w1 := (below_drew w |>.mono (by omega)).trans (hB.mono (show H + 1 + 1 ≤ w.heap.size by omega))
  exact ⟨rfl, hB', rfl, d4⟩


theorem gon_ok_b (G : FuncId) (cap : Array Value) (H R n c k k' : Nat) (A : Option Addr) (V : Value → World → Prop) (w : World) (v0 : Value) (n0 : Int)
    (hcf : ∀ (args : Array Value) (w : World), (callFunc G args).run Try.prog w = .ok (.enter G args) w) (hk : k ≤ n) (hR : R < H)
    (hG : ∀ w', Below w.heap.size w w' → w.heap.size + 1 ≤ w'.heap.size → Calls Try.prog G (#[.slice (cutA A k c) (n - k) (c - k)] ++ cap) w' fun e w'' => Below w'.heap.size w' w'' ∧ ∃ (X : Option Addr) (m mc : Nat), e = .returned (.tuple #[(.slice X m mc), .int .i64 (k' : Int)]) ∧ V (.slice X m mc) w'')
    (hV : Lasts2 H V)
    (b0 : Blk w H 47 #[.pointer (some ⟨R, 0, none⟩)]) (b1 : Blk w (H + 1) 87 #[.func (.func G) #[] cap]) (b2 : Blk w (H + 1 + 1) 24 #[v0]) (b3 : Blk w (H + 1 + 1 + 1) 3 #[.int .i64 n0])
    (hs : w.heap.size = H + 1 + 1 + 1 + 1)
    (hr : Rdr w R A n c (k : Int) 0) :
    Calls Try.prog 72 #[.func (.func 80) #[] #[.pointer (some ⟨H + 1, 0, none⟩), .pointer (some ⟨H, 0, none⟩), .pointer (some ⟨H + 1 + 1, 0, none⟩), .pointer (some ⟨H + 1 + 1 + 1, 0, none⟩)]] w fun e w' => e = .returned (.int .i64 0) ∧ Below (H + 1 + 1) w w' ∧ ∃ v, Blk w' (H + 1 + 1) 24 #[v] ∧ Blk w' (H + 1 + 1 + 1) 3 #[.int .i64 (k' : Int)] ∧ V v w' := by
  have hw : Below w.heap.size w (w.alloc (.cells #[.int .i64 0] 28)) := (Below.refl _ w).alloc (Nat.le_refl _) _
  have b4 : Blk (w.alloc (.cells #[.int .i64 0] 28)) (H + 1 + 1 + 1 + 1) 28 #[.int .i64 0] := by have := Blk.new w 28 #[.int .i64 0]; rw [hs] at this; exact this
  refine (guarded_any 80 _ w (OncOk (w.alloc (.cells #[.int .i64 0] 28)) H k' 24 V) (onc_ok_b G cap H R n c k k' A V _ v0 n0 hcf hk hR (fun w' h => hG w' (hw.trans (h.mono (by simp))) (by have := h.size; simpa using this)) hV (b0.alloc _) (b1.alloc _) (b2.alloc _) (b3.alloc _) b4 (Blk.alloc hr _)) (fun args w => by simp [callFunc, Try.func80, Try.f80, go_sem]) ?_).mono ?_
  · rintro e w' ⟨_, rfl, b5, _⟩
    rw [hs]
    exact ⟨.inl rfl, b5⟩
  · rintro e w' ⟨w0, h⟩
    rcases h with ⟨⟨hB, _, b5, v, d2, d3, hv⟩, rfl, u, rfl⟩ | ⟨c', ⟨_, e, _⟩, _⟩
    · rw [hs]
      exact ⟨rfl, ((hw.mono (by omega)).trans hB).setCell (p := ⟨H + 1 + 1 + 1 + 1, 0, none⟩) (by simp <;> omega) u, v, d2.far (p := ⟨H + 1 + 1 + 1 + 1, 0, none⟩) (by simp <;> omega) u, d3.far (p := ⟨H + 1 + 1 + 1 + 1, 0, none⟩) (by simp <;> omega) u, hV.set _ _ ⟨H + 1 + 1 + 1 + 1, 0, none⟩ _ (by simp <;> omega) (by simp <;> omega) hv⟩
    · cases e

theorem gon_err_b (G : FuncId) (cap : Array Value) (H R n c k : Nat) (er : Int) (A : Option Addr) (w : World) (v0 : Value) (n0 : Int)
    (hcf : ∀ (args : Array Value) (w : World), (callFunc G args).run Try.prog w = .ok (.enter G args) w) (hk : k ≤ n) (hR : R < H)
    (hG : ∀ w', Below w.heap.size w w' → Calls Try.prog G (#[.slice (cutA A k c) (n - k) (c - k)] ++ cap) w' fun e w'' => Below w'.heap.size w' w'' ∧ e = .panicked (failure er))
    (b0 : Blk w H 47 #[.pointer (some ⟨R, 0, none⟩)]) (b1 : Blk w (H + 1) 87 #[.func (.func G) #[] cap]) (b2 : Blk w (H + 1 + 1) 24 #[v0]) (b3 : Blk w (H + 1 + 1 + 1) 3 #[.int .i64 n0])
    (hs : w.heap.size = H + 1 + 1 + 1 + 1)
    (hr : Rdr w R A n c (k : Int) 0) :
    Calls Try.prog 72 #[.func (.func 80) #[] #[.pointer (some ⟨H + 1, 0, none⟩), .pointer (some ⟨H, 0, none⟩), .pointer (some ⟨H + 1 + 1, 0, none⟩), .pointer (some ⟨H + 1 + 1 + 1, 0, none⟩)]] w fun e w' => e = .returned (.int .i64 er) ∧ Below (H + 1 + 1) w w' := by
  have hw : Below w.heap.size w (w.alloc (.cells #[.int .i64 0] 28)) := (Below.refl _ w).alloc (Nat.le_refl _) _
  have b4 : Blk (w.alloc (.cells #[.int .i64 0] 28)) (H + 1 + 1 + 1 + 1) 28 #[.int .i64 0] := by have := Blk.new w 28 #[.int .i64 0]; rw [hs] at this; exact this
  refine (guarded_any 80 _ w (OncErr (w.alloc (.cells #[.int .i64 0] 28)) H er) (onc_err_b G cap H R n c k er A _ v0 n0 hcf hk hR (fun w' h => hG w' (hw.trans (h.mono (by simp)))) (b0.alloc _) (b1.alloc _) (b2.alloc _) (b3.alloc _) b4 (Blk.alloc hr _)) (fun args w => by simp [callFunc, Try.func80, Try.f80, go_sem]) ?_).mono ?_
  · rintro e w' ⟨_, rfl, b5⟩
    rw [hs]
    exact ⟨.inr ⟨er, rfl⟩, b5⟩
  · rintro e w' ⟨w0, h⟩
    rcases h with ⟨⟨hB, e, b5⟩, _⟩ | ⟨c', ⟨hB, e, b5⟩, rfl, u, rfl⟩
    · cases e
    · obtain rfl : c' = er := by simpa [failure] using e
      rw [hs]
      exact ⟨rfl, ((hw.mono (by omega)).trans hB).setCell (p := ⟨H + 1 + 1 + 1 + 1, 0, none⟩) (by simp <;> omega) u⟩


set_option maxRecDepth 100000 in
set_option maxHeartbeats 1000000 in
theorem on_ok_b (G : FuncId) (cap : Array Value) (R n c k k' : Nat) (A : Option Addr) (V : Value → World → Prop) (w : World)
    (hcf : ∀ (args : Array Value) (w : World), (callFunc G args).run Try.prog w = .ok (.enter G args) w) (hk : k ≤ n) (hkk : k + k' ≤ 140737488355328)
    (hG : ∀ w', Below w.heap.size w w' → w.heap.size + 1 + 1 + 1 + 1 + 1 ≤ w'.heap.size → Calls Try.prog G (#[.slice (cutA A k c) (n - k) (c - k)] ++ cap) w' fun e w'' => Below w'.heap.size w' w'' ∧ ∃ (X : Option Addr) (m mc : Nat), e = .returned (.tuple #[(.slice X m mc), .int .i64 (k' : Int)]) ∧ V (.slice X m mc) w'')
    (hV : Lasts2 w.heap.size V) (hVR : ∀ v W off u, V v W → V v (W.setCell ⟨R, off, none⟩ u)) (hsh : ∀ v W, V v W → ∃ (X : Option Addr) (m mc : Nat), v = (.slice X m mc))
    (hr : Rdr w R A n c (k : Int) 0) :
    Calls Try.prog 65 #[.pointer (some ⟨R, 0, none⟩), .func (.func G) #[] cap] w fun e w' => w.grownBy w' (some R) ∧ Rdr w' R A n c ((k : Int) + (k' : Int)) 0 ∧ ∃ v, e = .returned v ∧ V v w' := by
  have hmf : ∀ (fn : Fn) (first cap : Array Value) (w : World), (Instr.makeFunc fn first cap).run Try.prog w = .ok (.func fn first cap) w := fun _ _ _ _ => rfl
  have hRl := hr.lt
  go_enter Try.func65, Try.ntmps65
  go_wp2_with fail
  generalize hW3 : ((w.alloc (.cells #[.pointer (some ⟨R, 0, none⟩)] 47)).alloc (.cells #[.func (.func G) #[] cap] 87)).alloc (.cells #[(.slice none 0 0)] 24) = W3
  have b0 : Blk W3 w.heap.size 47 #[.pointer (some ⟨R, 0, none⟩)] := by rw [← hW3]; exact ((Blk.new w 47 _).alloc _).alloc _
  have b1 : Blk W3 (w.heap.size + 1) 87 #[.func (.func G) #[] cap] := by
    rw [← hW3]
    have := Blk.new (w.alloc (.cells #[.pointer (some ⟨R, 0, none⟩)] 47)) 87 #[.func (.func G) #[] cap]
    rw [World.size_alloc] at this
    exact this.alloc _
  have b2 : Blk W3 (w.heap.size + 1 + 1) 24 #[(.slice none 0 0)] := by
    rw [← hW3]
    have := Blk.new ((w.alloc (.cells #[.pointer (some ⟨R, 0, none⟩)] 47)).alloc (.cells #[.func (.func G) #[] cap] 87)) 24 #[(.slice none 0 0)]
    rw [World.size_alloc, World.size_alloc] at this
    exact this
  have hs3 : W3.heap.size = w.heap.size + 1 + 1 + 1 := by rw [← hW3]; simp
  have hB3 : Below w.heap.size w W3 := by
    rw [← hW3]
    exact (((Below.refl _ w).alloc (Nat.le_refl _) _).alloc (by simp <;> omega) _).alloc (by simp <;> omega) _
  clear hW3
  have hr3 := hr.below hB3 hRl
  have c0 : W3.cell? ⟨w.heap.size, 0, none⟩ = some (.pointer (some ⟨R, 0, none⟩)) := b0.cell 0
  have e3 : W3.cell? ⟨R, 3, none⟩ = some (.int .i64 0) := hr3.cell 3
  refine (is_any R A n c _ _ W3 hr3).mono ?_
  rintro e w9 ⟨rfl, rfl⟩
  go_wp2_with fail
  have b0 := b0.alloc (.cells #[.int .i64 0] 3)
  have b1 := b1.alloc (.cells #[.int .i64 0] 3)
  have b2 := b2.alloc (.cells #[.int .i64 0] 3)
  have b3 := Blk.new W3 3 #[.int .i64 0]
  have hB4 := hB3.alloc hB3.size (.cells #[.int .i64 0] 3)
  have hs4 : (W3.alloc (.cells #[.int .i64 0] 3)).heap.size = w.heap.size + 1 + 1 + 1 + 1 := by rw [World.size_alloc, hs3]
  rw [hs3] at b3
  have hr4 : Rdr (W3.alloc (.cells #[.int .i64 0] 3)) R A n c (k : Int) 0 := Blk.alloc hr3 _
  clear c0 e3 hr3 hB3 hs3
  generalize W3.alloc (.cells #[.int .i64 0] 3) = W4 at *
  have c0 : W4.cell? ⟨w.heap.size, 0, none⟩ = some (.pointer (some ⟨R, 0, none⟩)) := b0.cell 0
  have hsW : w.heap.size ≤ W4.heap.size := by omega
  have G5 := hide (gon_ok_b G cap w.heap.size R n c k k' A V W4.drew ((.slice none 0 0)) 0 hcf hk hRl (fun w' h h1 => hG w' (hB4.trans ((below_drew W4).trans h |>.mono hsW)) (by have : W4.drew.heap.size = W4.heap.size := rfl; omega)) hV b0 b1 b2 b3 hs4 hr4)
  clear hG
  go_region_held3 (fun w' => w'.cell? ⟨w.heap.size, 0, none⟩ = some (.pointer (some ⟨R, 0, none⟩)))
    (first | exact c0 | exact q0 | (refine (World.cell?_setCell_other _ _ _ _ (by simp <;> omega)).trans ?_; assumption))
    (first | (go_at_call 72; refine Calls.mono G5.out ?_; rintro e w5 ⟨rfl, hB5, v, d2, d3, hv⟩
              have q0 : w5.cell? ⟨w.heap.size, 0, none⟩ = some (.pointer (some ⟨R, 0, none⟩)) := (hB5.cell (p := ⟨w.heap.size, 0, none⟩) (show w.heap.size < w.heap.size + 1 + 1 by omega)).trans c0
              have hr5 := Rdr.below (w := W4.drew) hr4 hB5 (by omega)
              have q3 : w5.cell? ⟨R, 3, none⟩ = some (.int .i64 0) := hr5.cell 3
              have z3 : w5.frozen? ⟨R, 3, none⟩ = false := hr5.frozen 3))
  have hG5 : w.grownBy w5 (some R) := ⟨hB5.os.trans hB4.os, hB5.tape.trans hB4.tape, hB5.output.trans hB4.output, by have := hB5.size; simp at this; omega, fun i hi _ => (hB5.block i (by omega)).trans (hB4.block i hi)⟩
  have hG6 := grown_set hG5 (p := ⟨R, 3, none⟩) (.inl rfl) (.int .i64 0)
  have hr6 := hr5.setE 0
  have d1 := (Blk.below (w := W4.drew) b0 hB5 (by omega)).far (p := ⟨R, 3, none⟩) (by simp <;> omega) (.int .i64 0)
  have d2 := d2.far (p := ⟨R, 3, none⟩) (by simp <;> omega) (.int .i64 0)
  have d3 := d3.far (p := ⟨R, 3, none⟩) (by simp <;> omega) (.int .i64 0)
  have hv6 := hVR _ _ 3 (.int .i64 0) hv
  clear q0 q3 z3 c0 hr5 hr4 b0 b1 b2 b3 hs4 hB5 hB4 hsW hv G5 hG5
  generalize w5.setCell ⟨R, 3, none⟩ (.int .i64 0) = W6 at *
  have c0 : W6.cell? ⟨w.heap.size, 0, none⟩ = some (.pointer (some ⟨R, 0, none⟩)) := d1.cell 0
  have q2 : W6.cell? ⟨R, 2, none⟩ = some (.int .i64 (k : Int)) := hr6.cell 2
  have q3 : W6.cell? ⟨R, 3, none⟩ = some (.int .i64 0) := hr6.cell 3
  have z2 : W6.frozen? ⟨R, 2, none⟩ = false := hr6.frozen 2
  have qn : W6.cell? ⟨w.heap.size + 1 + 1 + 1, 0, none⟩ = some (.int .i64 (k' : Int)) := d3.cell 0
  obtain ⟨X, m, mc, rfl⟩ := hsh _ _ hv6
  have qv := d2.cell 0
  go_wp2
  go_region
  all_goals
    have qv' : (W6.setCell ⟨R, 2, none⟩ (.int .i64 ((k : Int) + (k' : Int)))).cell? ⟨w.heap.size + 1 + 1, 0, none⟩ = some (.slice X m mc) := (d2.far (p := ⟨R, 2, none⟩) (by simp <;> omega) _).cell 0
    go_wp2
    go_ret
    exact ⟨grown_drew (grown_set hG6 (p := ⟨R, 2, none⟩) (.inl rfl) _), hr6.setA _, (.slice X m mc), rfl, hV.drew _ _ 1 (hVR _ _ 2 _ hv6)⟩

set_option maxRecDepth 100000 in
set_option maxHeartbeats 1000000 in
theorem on_err_b (G : FuncId) (cap : Array Value) (R n c k : Nat) (er : Int) (A : Option Addr) (w : World)
    (hcf : ∀ (args : Array Value) (w : World), (callFunc G args).run Try.prog w = .ok (.enter G args) w) (hk : k ≤ n) (her : ¬ er = 0)
    (hG : ∀ w', Below w.heap.size w w' → Calls Try.prog G (#[.slice (cutA A k c) (n - k) (c - k)] ++ cap) w' fun e w'' => Below w'.heap.size w' w'' ∧ e = .panicked (failure er))
    (hr : Rdr w R A n c (k : Int) 0) :
    Calls Try.prog 65 #[.pointer (some ⟨R, 0, none⟩), .func (.func G) #[] cap] w fun e w' => w.grownBy w' (some R) ∧ Rdr w' R A n c (k : Int) er ∧ e = .returned (.slice none 0 0) := by
  have hmf : ∀ (fn : Fn) (first cap : Array Value) (w : World), (Instr.makeFunc fn first cap).run Try.prog w = .ok (.func fn first cap) w := fun _ _ _ _ => rfl
  have hRl := hr.lt
  go_enter Try.func65, Try.ntmps65
  go_wp2_with fail
  generalize hW3 : ((w.alloc (.cells #[.pointer (some ⟨R, 0, none⟩)] 47)).alloc (.cells #[.func (.func G) #[] cap] 87)).alloc (.cells #[(.slice none 0 0)] 24) = W3
  have b0 : Blk W3 w.heap.size 47 #[.pointer (some ⟨R, 0, none⟩)] := by rw [← hW3]; exact ((Blk.new w 47 _).alloc _).alloc _
  have b1 : Blk W3 (w.heap.size + 1) 87 #[.func (.func G) #[] cap] := by
    rw [← hW3]
    have := Blk.new (w.alloc (.cells #[.pointer (some ⟨R, 0, none⟩)] 47)) 87 #[.func (.func G) #[] cap]
    rw [World.size_alloc] at this
    exact this.alloc _
  have b2 : Blk W3 (w.heap.size + 1 + 1) 24 #[(.slice none 0 0)] := by
    rw [← hW3]
    have := Blk.new ((w.alloc (.cells #[.pointer (some ⟨R, 0, none⟩)] 47)).alloc (.cells #[.func (.func G) #[] cap] 87)) 24 #[(.slice none 0 0)]
    rw [World.size_alloc, World.size_alloc] at this
    exact this
  have hs3 : W3.heap.size = w.heap.size + 1 + 1 + 1 := by rw [← hW3]; simp
  have hB3 : Below w.heap.size w W3 := by
    rw [← hW3]
    exact (((Below.refl _ w).alloc (Nat.le_refl _) _).alloc (by simp <;> omega) _).alloc (by simp <;> omega) _
  clear hW3
  have hr3 := hr.below hB3 hRl
  have c0 : W3.cell? ⟨w.heap.size, 0, none⟩ = some (.pointer (some ⟨R, 0, none⟩)) := b0.cell 0
  have e3 : W3.cell? ⟨R, 3, none⟩ = some (.int .i64 0) := hr3.cell 3
  refine (is_any R A n c _ _ W3 hr3).mono ?_
  rintro e w9 ⟨rfl, rfl⟩
  go_wp2_with fail
  have b0 := b0.alloc (.cells #[.int .i64 0] 3)
  have b1 := b1.alloc (.cells #[.int .i64 0] 3)
  have b2 := b2.alloc (.cells #[.int .i64 0] 3)
  have b3 := Blk.new W3 3 #[.int .i64 0]
  have hB4 := hB3.alloc hB3.size (.cells #[.int .i64 0] 3)
  have hs4 : (W3.alloc (.cells #[.int .i64 0] 3)).heap.size = w.heap.size + 1 + 1 + 1 + 1 := by rw [World.size_alloc, hs3]
  rw [hs3] at b3
  have hr4 : Rdr (W3.alloc (.cells #[.int .i64 0] 3)) R A n c (k : Int) 0 := Blk.alloc hr3 _
  clear c0 e3 hr3 hB3 hs3
  generalize W3.alloc (.cells #[.int .i64 0] 3) = W4 at *
  have c0 : W4.cell? ⟨w.heap.size, 0, none⟩ = some (.pointer (some ⟨R, 0, none⟩)) := b0.cell 0
  have hsW : w.heap.size ≤ W4.heap.size := by omega
  have G5 := hide (gon_err_b G cap w.heap.size R n c k er A W4.drew ((.slice none 0 0)) 0 hcf hk hRl (fun w' h => hG w' (hB4.trans ((below_drew W4).trans h |>.mono hsW))) b0 b1 b2 b3 hs4 hr4)
  clear hG
  go_region_held3 (fun w' => w'.cell? ⟨w.heap.size, 0, none⟩ = some (.pointer (some ⟨R, 0, none⟩)))
    (first | exact c0 | exact q0 | (refine (World.cell?_setCell_other _ _ _ _ (by simp <;> omega)).trans ?_; assumption))
    (first | (go_at_call 72; refine Calls.mono G5.out ?_; rintro e w5 ⟨rfl, hB5⟩
              have q0 : w5.cell? ⟨w.heap.size, 0, none⟩ = some (.pointer (some ⟨R, 0, none⟩)) := (hB5.cell (p := ⟨w.heap.size, 0, none⟩) (show w.heap.size < w.heap.size + 1 + 1 by omega)).trans c0
              have hr5 := Rdr.below (w := W4.drew) hr4 hB5 (by omega)
              have q3 : w5.cell? ⟨R, 3, none⟩ = some (.int .i64 0) := hr5.cell 3
              have z3 : w5.frozen? ⟨R, 3, none⟩ = false := hr5.frozen 3))
  have hG5 : w.grownBy w5 (some R) := ⟨hB5.os.trans hB4.os, hB5.tape.trans hB4.tape, hB5.output.trans hB4.output, by have := hB5.size; simp at this; omega, fun i hi _ => (hB5.block i (by omega)).trans (hB4.block i hi)⟩
  have hG6 := grown_set hG5 (p := ⟨R, 3, none⟩) (.inl rfl) (.int .i64 er)
  have hr6 := hr5.setE er
  have d1 := (Blk.below (w := W4.drew) b0 hB5 (by omega)).far (p := ⟨R, 3, none⟩) (by simp <;> omega) (.int .i64 er)
  clear q0 q3 z3 c0 hr5 hr4 b0 b1 b2 b3 hs4 hB5 hB4 hsW G5 hG5
  generalize w5.setCell ⟨R, 3, none⟩ (.int .i64 er) = W6 at *
  have c0 : W6.cell? ⟨w.heap.size, 0, none⟩ = some (.pointer (some ⟨R, 0, none⟩)) := d1.cell 0
  have q3 : W6.cell? ⟨R, 3, none⟩ = some (.int .i64 er) := hr6.cell 3
  go_wp2
  go_ret
  exact ⟨hG6, hr6, rfl⟩

set_option maxRecDepth 100000 in
set_option maxHeartbeats 1000000 in
theorem on_had_b (f : Value) (R n c k : Nat) (er : Int) (A : Option Addr) (w : World) (hf : ∃ G cap, f = .func (.func G) #[] cap) (her : ¬ er = 0)
    (hr : Rdr w R A n c (k : Int) er) :
    Calls Try.prog 65 #[.pointer (some ⟨R, 0, none⟩), f] w fun e w' => w.grownBy w' (some R) ∧ Rdr w' R A n c (k : Int) er ∧ e = .returned (.slice none 0 0) := by
  obtain ⟨G, cap, rfl⟩ := hf
  have hmf : ∀ (fn : Fn) (first cap : Array Value) (w : World), (Instr.makeFunc fn first cap).run Try.prog w = .ok (.func fn first cap) w := fun _ _ _ _ => rfl
  have hRl := hr.lt
  go_enter Try.func65, Try.ntmps65
  go_wp2_with fail
  generalize hW3 : ((w.alloc (.cells #[.pointer (some ⟨R, 0, none⟩)] 47)).alloc (.cells #[.func (.func G) #[] cap] 87)).alloc (.cells #[(.slice none 0 0)] 24) = W3
  have b0 : Blk W3 w.heap.size 47 #[.pointer (some ⟨R, 0, none⟩)] := by rw [← hW3]; exact ((Blk.new w 47 _).alloc _).alloc _
  have b1 : Blk W3 (w.heap.size + 1) 87 #[.func (.func G) #[] cap] := by
    rw [← hW3]
    have := Blk.new (w.alloc (.cells #[.pointer (some ⟨R, 0, none⟩)] 47)) 87 #[.func (.func G) #[] cap]
    rw [World.size_alloc] at this
    exact this.alloc _
  have b2 : Blk W3 (w.heap.size + 1 + 1) 24 #[(.slice none 0 0)] := by
    rw [← hW3]
    have := Blk.new ((w.alloc (.cells #[.pointer (some ⟨R, 0, none⟩)] 47)).alloc (.cells #[.func (.func G) #[] cap] 87)) 24 #[(.slice none 0 0)]
    rw [World.size_alloc, World.size_alloc] at this
    exact this
  have hs3 : W3.heap.size = w.heap.size + 1 + 1 + 1 := by rw [← hW3]; simp
  have hB3 : Below w.heap.size w W3 := by
    rw [← hW3]
    exact (((Below.refl _ w).alloc (Nat.le_refl _) _).alloc (by simp <;> omega) _).alloc (by simp <;> omega) _
  clear hW3
  have hr3 := hr.below hB3 hRl
  have c0 : W3.cell? ⟨w.heap.size, 0, none⟩ = some (.pointer (some ⟨R, 0, none⟩)) := b0.cell 0
  have e3 : W3.cell? ⟨R, 3, none⟩ = some (.int .i64 er) := hr3.cell 3
  refine (is_any R A n c _ _ W3 hr3).mono ?_
  rintro e w9 ⟨rfl, rfl⟩
  go_wp2
  go_ret
  exact ⟨grown_of_below hB3 _, hr3, rfl⟩

end Go.Proofs.Ytdlbhppoknbnlaa
