/-
  The walk of awake: it answers true. No condition.
-/
import Derived.Test.YtdnhpmdmkdgmpaaMask
import Derived.Lib.SlBytesConst
namespace Go.Proofs.Ytdnhpmdmkdgmpaa
open Go.RowKit Go.Shelf

theorem bs_lit (w : World) (ks : List UInt8) (n : Nat) (cs : Array Value) (hcs : cs = (ks.map b8).toArray) (hn : ks.length = n) (hr : n ≤ 140737488351232) : Bs (w.alloc (.cells cs 5)) (w.heap.size + 1) (some ⟨w.heap.size, 0, none⟩) n n ks := by
  subst hcs
  have := Sl.of_blk (Blk.new w 5 (ks.map b8).toArray) (n := n) (c := n) (by simpa using hn) (Nat.le_refl _) hr
  rw [World.size_alloc] at this
  exact this
theorem bs_mark (w : World) (ks : List UInt8) (n c : Nat) (cs : Array Value) (m : Nat × Nat) (hcs : cs = (ks.map b8).toArray) (hn : ks.length = n) (hc : n ≤ c) (hr : n ≤ 140737488351232) : Bs (w.alloc (.cells cs 5 m)) (w.alloc (.cells cs 5 m)).heap.size (some ⟨w.heap.size, 0, none⟩) n c ks := by
  subst hcs
  refine ⟨by simpa using hn, hc, hr, fun _ => ⟨w.heap.size, 0, rfl, by simp, fun j u hu => ?_⟩⟩
  rw [Nat.zero_add]
  exact (World.cell?_alloc_mark w (ks.map b8).toArray 5 m j).trans (by simpa using hu)
theorem frameB_nil : frameB [] = [0, 216, 234, 130, 162] := by decide +kernel

set_option maxRecDepth 100000 in
set_option maxHeartbeats 2000000 in
theorem awake_any (w : World) : Calls Try.prog 7 #[] w fun e w' => e = .returned (.bool true) ∧ Below w.heap.size w w' := by
  have kc := fun (w : World) (C : Array Value) (n c : Nat) => Lib.run_convert_bytes_const (P := Try.prog) w 22 5 C n c Try.underlying22 Try.underlying5
  go_enter Try.func7, Try.ntmps7
  go_wp2_with fail
  refine (new_any w).mono ?_
  rintro e w1 ⟨rfl, rfl⟩
  have ht : Tbl (w.alloc (.cells (tbCells 1) 44)) w.heap.size false := tb_of _ _ 1 (Blk.new w 44 _)
  have hB : Below w.heap.size w (w.alloc (.cells (tbCells 1) 44)) := (Below.refl _ w).alloc (Nat.le_refl _) _
  generalize w.alloc (.cells (tbCells 1) 44) = w1 at *
  obtain ⟨g, hge⟩ : ∃ g, w.heap.size = g := ⟨_, rfl⟩
  rw [hge] at ht hB ⊢
  have Hge := hide hge
  clear hge
  go_wp2_with fail
  refine (made_any g 1 0 0 0 0 w1 ht (.inl rfl)).mono ?_
  rintro e w2 ⟨rfl, rfl⟩
  go_wp2_with fail
  have hbn := bs_mark w1 [49, 50, 51, 52, 53, 54, 55, 56, 57] 9 9 _ (9, 10) rfl rfl (by omega) (by omega)
  have ht2 := ht.alloc (.cells (([49, 50, 51, 52, 53, 54, 55, 56, 57] : List UInt8).map b8).toArray 5 (9, 10))
  have hgl := ht.lt
  have hB2 := hB.alloc (by omega) (.cells (([49, 50, 51, 52, 53, 54, 55, 56, 57] : List UInt8).map b8).toArray 5 (9, 10))
  refine (sum_any g false _ _ 9 9 _ ht2 hbn (by simp; omega)).mono ?_
  rintro e w3 ⟨rfl, ht3, hg3⟩
  rw [sum_nine]
  have hB3 := hB2.grown hg3 (by have := ht2.lt; omega) (fun r e => by cases e; exact Nat.le_refl _)
  clear hbn ht2 hB2 hg3 ht hB
  go_wp2_with fail
  refine (made_any g 1 1 0 1 256 w3 ht3 (.inr rfl)).mono ?_
  rintro e w4 ⟨rfl, rfl⟩
  have hs3 := ht3.lt
  go_wp2_with fail
  refine (frame_any g true [] none 0 0 w3 ht3 (Bs.nil _ _ _ _) (by omega) (fun _ a e => by cases e)).mono ?_
  rintro e w4 ⟨v, rfl, hm, ht4, hg4⟩
  rw [frameB_nil] at hm
  obtain ⟨VA, VL, vc, rfl, hVL, hvb⟩ := Mine.bsL hm (by decide)
  obtain rfl : VL = 5 := hVL
  have hB4 := hB3.grown hg4 (by omega) (fun r e => by cases e; exact Nat.le_refl _)
  obtain ⟨b1, o1, rfl, _, hc1⟩ := hvb.at_ (by omega)
  have c1 : w4.cell? ⟨b1, o1 + 1, none⟩ = some (.int .u8 216) := hc1 1 (by decide)
  clear hm hvb hc1
  go_wp2_with fail
  refine (mask_any 0 w4 (by omega)).mono ?_
  rintro e w5 ⟨rfl, rfl⟩
  have h0 : ((maskN 0 : Nat) : Int) = 2726488792 := by decide +kernel
  rw [h0]
  go_wp2
  go_ret
  exact ⟨rfl, by rw [Hge.out]; exact hB4⟩

end Go.Proofs.Ytdnhpmdmkdgmpaa
