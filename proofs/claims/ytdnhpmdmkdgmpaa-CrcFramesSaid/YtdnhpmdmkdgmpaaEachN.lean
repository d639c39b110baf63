/-
  The loop over the frames, of a table that nobody made: it tells nothing. No condition.
-/
import Derived.Test.YtdnhpmdmkdgmpaaAwake
import Derived.BigQuiet
import Derived.LoopN
namespace Go.Proofs.Ytdnhpmdmkdgmpaa
open Go.RowKit Go.Shelf

theorem tb_zero (w : World) (g : Nat) (h : Blk w g 44 Try.zeroCells44) : Tb w g 0 0 0 0 0 :=
  ⟨Try.zeroCells44, h, by kernel_rfl, by kernel_rfl, by kernel_rfl, by kernel_rfl, by kernel_rfl, fun i hi => by omega⟩
theorem NoTb.ptr {w : World} {v : Value} (h : NoTb w v) : ∃ p, v = .pointer p := by
  rcases h with rfl | ⟨g, rfl, _⟩ <;> exact ⟨_, rfl⟩
theorem NoTb.drewN {w : World} {v : Value} (h : NoTb w v) (n : Nat) : NoTb (w.drewN n) v := h.imp id fun ⟨g, e, h⟩ => ⟨g, e, h.drewN n⟩
theorem NoTb.below {B : Nat} {w w' : World} {v : Value} (h : NoTb w v) (hb : Below B w w') (hv : ∀ g, v = .pointer (some ⟨g, 0, none⟩) → g < B) : NoTb w' v := h.imp id fun ⟨g, e, h⟩ => ⟨g, e, h.below hb (hv g e)⟩

set_option maxRecDepth 100000 in
set_option maxHeartbeats 1000000 in
theorem eachN_any (v : Value) (B1 B2 : Nat) (A : Option Addr) (n c : Nat) (y : Value) (W : World) (h1 : W.cell? ⟨B1, 0, none⟩ = some v) (h2 : W.cell? ⟨B2, 0, none⟩ = some (.slice A n c)) (h : NoTb W v) :
    Calls Try.prog 31 #[y, .pointer (some ⟨B1, 0, none⟩), .pointer (some ⟨B2, 0, none⟩)] W fun e w' => e = .returned (.tuple #[]) ∧ ∃ m, w' = W.drewN m := by
  have hcut := run_cut (P := Try.prog) 22 5 Try.underlying22 Try.sizeOf5 A n c .i64 0 (by omega) (by omega)
  obtain ⟨p, rfl⟩ := h.ptr
  have l2 : ∀ k, Calls Try.prog 12 #[.pointer p, .slice (cutA A 0 c) (n - 0) (c - 0)] (W.drewN k) fun e w' => e = .returned (.tuple #[.slice none 0 0, .int .i64 0, .int .i64 32]) ∧ ∃ m, w' = W.drewN m :=
    fun k => (unframe_none (.pointer p) _ _ _ _ (h.drewN k)).mono fun e w' ⟨a, b⟩ => ⟨a, k, b.symm⟩
  have L2 := hide l2
  clear l2 h
  go_enter Try.func31, Try.ntmps31
  go_wp2
  refine wp_loop_once ?_
  go_wp2
  go_quiet (first | exact L2.out _)
  go_wp2
  refine bodyPost_ret (results_none rfl _ _ _) rfl ?_
  exact ⟨rfl, _, rfl⟩

end Go.Proofs.Ytdnhpmdmkdgmpaa
