/-
  The walks of Once.Do and of Seal. Condition: the table lies in memory as a skip list does.
-/
import Derived.Test.YtkbjbjkgohkkjaaSealW
namespace Go.Proofs.Ytkbjbjkgohkkjaa
open Go.RowKit Go.Shelf

section
variable {w : World} {T H : Nat} {tv : Value} {high many size steps dn st sd : Int}
theorem tc7 (h : Blk w T 47 (tc tv H high many size steps dn st sd)) (z : Int) : Blk (w.setCell ⟨T, 7, none⟩ (.int .u32 z)) T 47 (tc tv H high many size steps z st sd) := h.put 7 _
theorem tc8 (h : Blk w T 47 (tc tv H high many size steps dn st sd)) (z : Int) : Blk (w.setCell ⟨T, 8, none⟩ (.int .i32 z)) T 47 (tc tv H high many size steps dn z sd) := h.put 8 _
theorem tc10 (h : Blk w T 47 (tc tv H high many size steps dn st sd)) (z : Int) : Blk (w.setCell ⟨T, 10, none⟩ (.int .u32 z)) T 47 (tc tv H high many size steps dn st z) := h.put 10 _
end

set_option maxRecDepth 100000 in
theorem seal1_any (T H X Y : Nat) (tv : Value) (high many size steps dn st : Int) (w : World) (h : Blk w T 47 (tc tv H high many size steps dn st 0)) (hX : Boxed w X 26 (.pointer (some ⟨T, 0, none⟩))) (hY : Boxed w Y 4 (.bool false)) :
    Calls Try.prog 40 #[.pointer (some ⟨X, 0, none⟩), .pointer (some ⟨Y, 0, none⟩)] w fun e w' => e = .returned (.tuple #[]) ∧ w' = (w.drew.setCell ⟨T, 10, none⟩ (.int .u32 1)).setCell ⟨Y, 0, none⟩ (.bool true) := by
  have cX := hX.cell
  have c10 : w.cell? ⟨T, 10, none⟩ = some (.int .u32 0) := h.cell 10
  have hYT : Y ≠ T := blk_ne hY h (by decide)
  have hY2 : Boxed (w.drew.setCell ⟨T, 10, none⟩ (.int .u32 1)) Y 4 (.bool false) := Blk.far (w := w.drew) hY hYT _
  have cY : (w.setCell ⟨T, 10, none⟩ (.int .u32 1)).cell? ⟨Y, 0, none⟩ = some (.bool false) := hY2.cell
  have fY : (w.setCell ⟨T, 10, none⟩ (.int .u32 1)).frozen? ⟨Y, 0, none⟩ = false := hY2.frozen
  go_enter Try.func40, Try.ntmps40
  go_wp2_with fail
  refine (storeb_any ⟨T, 10, none⟩ _ w c10 (h.frozen 10)).mono ?_
  rintro e w' ⟨rfl, rfl⟩
  go_wp2
  go_end0
  exact ⟨rfl, rfl⟩

set_option maxRecDepth 100000 in
set_option maxHeartbeats 1600000 in
theorem slow_any (T H X Y : Nat) (tv : Value) (high many size steps : Int) (w : World) (h : Blk w T 47 (tc tv H high many size steps 0 0 0)) (hX : Boxed w X 26 (.pointer (some ⟨T, 0, none⟩))) (hY : Boxed w Y 4 (.bool false)) :
    Calls Try.prog 52 #[.pointer (some ⟨T, 7, none⟩), .func (.func 40) #[] #[.pointer (some ⟨X, 0, none⟩), .pointer (some ⟨Y, 0, none⟩)]] w fun e w' => e = .returned (.tuple #[]) ∧ Blk w' T 47 (tc tv H high many size steps 1 0 1) ∧ Boxed w' Y 4 (.bool true) ∧ Moved (fun r => r = T ∨ r = Y) w w' := by
  have hXT : X ≠ T := blk_ne hX h (by decide)
  have hYT : Y ≠ T := blk_ne hY h (by decide)
  have h1 := tc8 h 1
  have hX1 := Blk.far hX (p := ⟨T, 8, none⟩) hXT (.int .i32 1)
  have hY1 := Blk.far hY (p := ⟨T, 8, none⟩) hYT (.int .i32 1)
  have c8 : w.cell? ⟨T, 8, none⟩ = some (.int .i32 0) := h.cell 8
  have m1 : Moved (fun r => r = T ∨ r = Y) w (w.setCell ⟨T, 8, none⟩ (.int .i32 1)) := (Moved.refl _ w).set (.inr (.inl rfl)) _
  go_enter_defers Try.func52, Try.ntmps52
  go_wp2_with fail
  refine (lock_free ⟨T, 8, none⟩ w c8 (h.frozen 8)).mono ?_
  rintro e w' ⟨rfl, rfl⟩
  generalize w.setCell ⟨T, 8, none⟩ (.int .i32 1) = w1 at *
  go_wp2_with fail
  refine (loadb_any T 7 0 w1 (h1.cell 7)).mono ?_
  rintro e w' ⟨rfl, rfl⟩
  go_wp2_with fail
  refine (seal1_any T H X Y tv high many size steps 0 1 w1 h1 hX1 hY1).mono ?_
  rintro e w2 ⟨rfl, rfl⟩
  have h2 := (tc10 (Blk.drewN h1 1) 1).far (p := ⟨Y, 0, none⟩) (fun e => hYT e.symm) (.bool true)
  have hY2 := Blk.put ((Blk.drewN hY1 1).far (p := ⟨T, 10, none⟩) hYT (.int .u32 1)) 0 (.bool true)
  have m2 := ((m1.drewN 1).set (p := ⟨T, 10, none⟩) (.inr (.inl rfl)) (.int .u32 1)).set (p := ⟨Y, 0, none⟩) (.inr (.inr rfl)) (.bool true)
  have hgoal : ∃ w2, (w1.drew.setCell ⟨T, 10, none⟩ (.int .u32 1)).setCell ⟨Y, 0, none⟩ (.bool true) = w2 := ⟨_, rfl⟩
  obtain ⟨w2, hw2⟩ := hgoal
  rw [hw2]
  rw [show ((w1.drewN 1).setCell ⟨T, 10, none⟩ (.int .u32 1)).setCell ⟨Y, 0, none⟩ (.bool true) = w2 from hw2] at h2 hY2 m2
  clear hw2
  go_wp2
  refine leaves_cons (f := 41) (args := #[.pointer (some ⟨T, 7, none⟩), .bool true]) (by simp) (by simp [go_sem]) ?_
  refine (store_deferred ⟨T, 7, none⟩ (.int .u32 0) .returning w2 (h2.cell 7) (h2.frozen 7)).mono ?_
  rintro e u' w'' ⟨rfl, rfl, rfl⟩
  have h3 := tc7 (Blk.drewN h2 1) 1
  refine leaves_cons (f := 57) (args := #[.pointer (some ⟨T, 8, none⟩)]) (by simp [settle]) (by simp [go_sem]) ?_
  refine (unlock_deferred ⟨T, 8, none⟩ _ _ (h3.cell 8) (h3.frozen 8)).mono ?_
  rintro e u' w'' ⟨rfl, rfl, rfl⟩
  simp [Leaves, settle, results, Try.results52]
  exact ⟨tc8 h3 0, Blk.far (Blk.far (Blk.drewN hY2 1) (p := ⟨T, 7, none⟩) hYT _) (p := ⟨T, 8, none⟩) hYT _, ((m2.drewN 1).set (p := ⟨T, 7, none⟩) (.inr (.inl rfl)) _).set (p := ⟨T, 8, none⟩) (.inr (.inl rfl)) _⟩

theorem do_first (T H X Y : Nat) (tv : Value) (high many size steps : Int) (w : World) (h : Blk w T 47 (tc tv H high many size steps 0 0 0)) (hX : Boxed w X 26 (.pointer (some ⟨T, 0, none⟩))) (hY : Boxed w Y 4 (.bool false)) :
    Calls Try.prog 39 #[.pointer (some ⟨T, 7, none⟩), .func (.func 40) #[] #[.pointer (some ⟨X, 0, none⟩), .pointer (some ⟨Y, 0, none⟩)]] w fun e w' => e = .returned (.tuple #[]) ∧ Blk w' T 47 (tc tv H high many size steps 1 0 1) ∧ Boxed w' Y 4 (.bool true) ∧ Moved (fun r => r = T ∨ r = Y) w w' := by
  go_enter Try.func39, Try.ntmps39
  go_wp2_with fail
  refine (loadb_any T 7 0 w (h.cell 7)).mono ?_
  rintro e w' ⟨rfl, rfl⟩
  go_wp2_with fail
  refine (slow_any T H X Y tv high many size steps w h hX hY).mono ?_
  rintro e w' ⟨rfl, h'⟩
  go_wp2
  go_end0
  exact ⟨rfl, h'⟩
theorem do_done (T H : Nat) (tv fv : Value) (high many size steps st sd : Int) (w : World) (h : Blk w T 47 (tc tv H high many size steps 1 st sd)) :
    Calls Try.prog 39 #[.pointer (some ⟨T, 7, none⟩), fv] w fun e w' => e = .returned (.tuple #[]) ∧ w = w' := by
  go_enter Try.func39, Try.ntmps39
  go_wp2_with fail
  refine (loadb_any T 7 1 w (h.cell 7)).mono ?_
  rintro e w' ⟨rfl, rfl⟩
  go_wp2
  go_end0
  exact ⟨rfl, rfl⟩

set_option maxRecDepth 100000 in
set_option maxHeartbeats 1600000 in
theorem seal_any (T base : Nat) (tw : List Int) (ns : List Nd) (cnt : Nat) (sl : Bool) (hd : Nw) (ms : List Nw) (w : World) (h : Tm w T base tw ns cnt sl hd ms) :
    Calls Try.prog 17 #[.pointer (some ⟨T, 0, none⟩)] w fun e w' => e = .returned (.bool (!sl)) ∧ Tm w' T base tw ns cnt true hd ms ∧ w.grownBy w' (some T) := by
  have hB := ((Below.refl _ w).alloc (Nat.le_refl _) (.cells #[.pointer (some ⟨T, 0, none⟩)] 26))
  have h1 := h.alloc (.cells #[.pointer (some ⟨T, 0, none⟩)] 26)
  have hX := Blk.new w 26 #[.pointer (some ⟨T, 0, none⟩)]
  have hTl := h.lt
  have hs1 : (w.alloc (.cells #[.pointer (some ⟨T, 0, none⟩)] 26)).heap.size = w.heap.size + 1 := by simp
  have cX := hX.cell 0
  go_enter Try.func17, Try.ntmps17
  go_wp2_with fail
  generalize w.alloc (.cells #[.pointer (some ⟨T, 0, none⟩)] 26) = w1 at *
  refine (is_any T w1 h1.c0).mono ?_
  rintro e w' ⟨rfl, rfl⟩
  have h2 := h1.alloc (.cells #[.bool false] 4)
  have hX2 := Blk.alloc hX (.cells #[.bool false] 4)
  have hY2 := Blk.new w1 4 #[.bool false]
  have hB2 := hB.alloc (by omega) (.cells #[.bool false] 4)
  have cX2 := hX2.cell 0
  go_wp2_with fail
  rw [← hs1]
  rw [hs1] at hY2
  generalize w1.alloc (.cells #[.bool false] 4) = w2 at *
  obtain ⟨tv, hb, hm⟩ := h2.tab
  cases sl with
  | true =>
    have cY := hY2.cell 0
    have Hh := hide h2
    have HB := hide hB2
    clear h1 h2 hX hX2 hB hB2
    rw [hs1]
    refine (do_done T hd.b tv _ _ _ _ _ 0 1 w2 hb).mono ?_
    rintro e w' ⟨rfl, rfl⟩
    go_wp2
    go_ret
    exact ⟨rfl, Hh.out, grown_of_below HB.out _⟩
  | false =>
    have hnfT := h2.sl.not_foot hb (by decide) (by decide) (by decide)
    have hnfY := h2.sl.not_foot (show w2.heap[w.heap.size + 1]? = _ from hY2) (by decide) (by decide) (by decide)
    have Hh := hide h2
    have HB := hide hB2
    have Hm := hide hm
    have HbT := hide hb
    have HbY := hide hY2
    rw [hs1]
    refine (do_first T hd.b w.heap.size (w.heap.size + 1) tv _ _ _ _ w2 hb hX2 hY2).mono ?_
    rintro e w3 ⟨rfl, hb3, hY3, hmv⟩
    have cY := hY3.cell
    have Hb3 := hide hb3
    have Hmv := hide hmv
    clear h1 h2 hX hX2 hB hB2 hb hb3 hY2 hY3 hm hmv cX cX2
    go_wp2
    go_ret
    refine ⟨rfl, ⟨⟨tv, Hb3.out, ownsRow_of_heap Hm.out fun r hr => ?_⟩, Hh.out.sl.keep fun r hr => ?_, Hh.out.low⟩, ?_⟩
    · obtain ⟨cs, f, hh⟩ := ownsRow_own Hm.out hr
      refine Hmv.out.block r (Array.getElem?_eq_some_iff.1 hh).1 (fun e => ?_)
      rcases e with rfl | rfl
      · have := hh.symm.trans HbT.out
        injection this with this
        injection this with _ e _
        cases e
      · have := hh.symm.trans HbY.out
        injection this with this
        injection this with _ e _
        cases e
    · refine Hmv.out.block r (Hh.out.sl.foot_lt hr) (fun e => ?_)
      rcases e with rfl | rfl
      · exact hnfT hr
      · exact hnfY hr
    · have g1 := HB.out
      have g2 := Hmv.out
      exact ⟨g2.os.trans g1.os, g2.tape.trans g1.tape, g2.output.trans g1.output, Nat.le_trans g1.size g2.size, fun q hq hn => (g2.block q (Nat.lt_of_lt_of_le hq g1.size) (fun e => by
        rcases e with rfl | rfl
        · exact hn rfl
        · omega)).trans (g1.block q hq)⟩

set_option maxRecDepth 100000 in
theorem put_sealed (T base : Nat) (tw : List Int) (ns : List Nd) (cnt : Nat) (hd : Nw) (ms : List Nw) (A A2 : Option Addr) (n c n2 c2 : Nat) (w : World) (h : Tm w T base tw ns cnt true hd ms) :
    Calls Try.prog 11 #[.pointer (some ⟨T, 0, none⟩), .slice A n c, .slice A2 n2 c2] w fun e w' => e = .returned (.int .i64 180) ∧ w = w' := by
  have hl := loadb_any T 10 _ w h.c10
  go_enter Try.func11, Try.ntmps11
  go_wp2_with fail
  refine (is_any T w h.c0).mono ?_
  rintro e w' ⟨rfl, rfl⟩
  go_wp2_with fail
  refine hl.mono ?_
  rintro e w' ⟨rfl, rfl⟩
  go_wp2
  go_ret
  exact ⟨rfl, rfl⟩

end Go.Proofs.Ytkbjbjkgohkkjaa
