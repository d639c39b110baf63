/-
  The walks of the methods on a table that nobody made: nothing is in it. Condition: the table is nil, or its first cell is 0.
-/
import Derived.Test.YtkbjbjkgohkkjaaAwake
namespace Go.Proofs.Ytkbjbjkgohkkjaa
open Go.RowKit Go.Shelf

attribute [local go_sem] Oper.semAt_some

set_option maxRecDepth 100000 in
theorem get_none (v : Value) (A : Option Addr) (n c : Nat) (w : World) (hv : NoTb w v) : Calls Try.prog 9 #[v, .slice A n c] w fun e w' => e = .returned (.tuple #[.slice none 0 0, .bool false]) ∧ w = w' := by
  obtain ⟨p, rfl⟩ := hv.ptr
  go_enter Try.func9, Try.ntmps9
  go_wp2_with fail
  refine (is_none _ w hv).mono ?_
  rintro e w' ⟨rfl, rfl⟩
  go_wp2
  go_ret2
  exact ⟨rfl, rfl⟩

set_option maxRecDepth 100000 in
theorem put_none (v : Value) (A A2 : Option Addr) (n c n2 c2 : Nat) (w : World) (hv : NoTb w v) : Calls Try.prog 11 #[v, .slice A n c, .slice A2 n2 c2] w fun e w' => e = .returned (.int .i64 181) ∧ w = w' := by
  obtain ⟨p, rfl⟩ := hv.ptr
  go_enter Try.func11, Try.ntmps11
  go_wp2_with fail
  refine (is_none _ w hv).mono ?_
  rintro e w' ⟨rfl, rfl⟩
  go_wp2
  go_ret
  exact ⟨rfl, rfl⟩

set_option maxRecDepth 100000 in
theorem len_none (v : Value) (w : World) (hv : NoTb w v) : Calls Try.prog 13 #[v] w fun e w' => e = .returned (.int .i64 0) ∧ w = w' := by
  obtain ⟨p, rfl⟩ := hv.ptr
  go_enter Try.func13, Try.ntmps13
  go_wp2_with fail
  refine (is_none _ w hv).mono ?_
  rintro e w' ⟨rfl, rfl⟩
  go_wp2
  go_ret
  exact ⟨rfl, rfl⟩

set_option maxRecDepth 100000 in
theorem size_none (v : Value) (w : World) (hv : NoTb w v) : Calls Try.prog 14 #[v] w fun e w' => e = .returned (.int .i64 0) ∧ w = w' := by
  obtain ⟨p, rfl⟩ := hv.ptr
  go_enter Try.func14, Try.ntmps14
  go_wp2_with fail
  refine (is_none _ w hv).mono ?_
  rintro e w' ⟨rfl, rfl⟩
  go_wp2
  go_ret
  exact ⟨rfl, rfl⟩

set_option maxRecDepth 100000 in
theorem steps_none (v : Value) (w : World) (hv : NoTb w v) : Calls Try.prog 16 #[v] w fun e w' => e = .returned (.int .i64 0) ∧ w = w' := by
  obtain ⟨p, rfl⟩ := hv.ptr
  go_enter Try.func16, Try.ntmps16
  go_wp2_with fail
  refine (is_none _ w hv).mono ?_
  rintro e w' ⟨rfl, rfl⟩
  go_wp2
  go_ret
  exact ⟨rfl, rfl⟩

set_option maxRecDepth 100000 in
theorem sealed_none (v : Value) (w : World) (hv : NoTb w v) : Calls Try.prog 18 #[v] w fun e w' => e = .returned (.bool false) ∧ w = w' := by
  obtain ⟨p, rfl⟩ := hv.ptr
  go_enter Try.func18, Try.ntmps18
  go_wp2_with fail
  refine (is_none _ w hv).mono ?_
  rintro e w' ⟨rfl, rfl⟩
  go_wp2
  go_ret
  exact ⟨rfl, rfl⟩

set_option maxRecDepth 100000 in
theorem first_none (v : Value) (A : Option Addr) (n c : Nat) (w : World) (hv : NoTb w v) : Calls Try.prog 10 #[v, .slice A n c] w fun e w' => e = .returned (.tuple #[.agg #[.slice none 0 0, .slice none 0 0], .bool false]) ∧ Below w.heap.size w w' := by
  obtain ⟨p, rfl⟩ := hv.ptr
  have hB := (Below.refl _ w).alloc (Nat.le_refl _) (.cells #[.slice none 0 0, .slice none 0 0] 24)
  have hv1 := hv.below hB (Nat.le_refl _)
  have hb := Blk.new w 24 #[.slice none 0 0, .slice none 0 0]
  go_enter Try.func10, Try.ntmps10
  go_wp2_with fail
  generalize w.alloc (.cells #[.slice none 0 0, .slice none 0 0] 24) = w0 at *
  have r0 := hb.cell 0
  have r1 := hb.cell 1
  have s0 := hb.frozen 0
  have s1 := hb.frozen 1
  refine (is_none _ w0 hv1).mono ?_
  rintro e w' ⟨rfl, rfl⟩
  go_wp2
  have hb4 := (hb.put 0 (.slice none 0 0)).put 1 (.slice none 0 0)
  have y0 := hb4.cell 0
  have y1 := hb4.cell 1
  refine ⟨rfl, .tuple #[.agg #[.slice none 0 0, .slice none 0 0], .bool false], ?_, rfl, (hB.setCell (p := ⟨w.heap.size, 0, none⟩) (Nat.le_refl _) _).setCell (p := ⟨w.heap.size, 1, none⟩) (Nat.le_refl _) _⟩
  simp [results, Try.f10, go_sem, y0, y1]

set_option maxRecDepth 100000 in
theorem seal_none (v : Value) (w : World) (hv : NoTb w v) : Calls Try.prog 17 #[v] w fun e w' => e = .returned (.bool false) ∧ Below w.heap.size w w' := by
  obtain ⟨p, rfl⟩ := hv.ptr
  have hB := (Below.refl _ w).alloc (Nat.le_refl _) (.cells #[.pointer p] 26)
  have hv1 := hv.below hB (Nat.le_refl _)
  have hb := Blk.new w 26 #[.pointer p]
  have c0 := hb.cell 0
  go_enter Try.func17, Try.ntmps17
  go_wp2_with fail
  generalize w.alloc (.cells #[.pointer p] 26) = w0 at *
  refine (is_none _ w0 hv1).mono ?_
  rintro e w' ⟨rfl, rfl⟩
  go_wp2
  go_ret
  exact ⟨rfl, hB⟩

theorem each_val (v : Value) (A : Option Addr) (n c : Nat) (w : World) (hv : ∃ p, v = .pointer p) :
    Calls Try.prog 19 #[v, .slice A n c] w fun e w' => e = .returned (.func (.func 42) #[] #[.pointer (some ⟨w.heap.size, 0, none⟩), .pointer (some ⟨w.heap.size + 1, 0, none⟩)]) ∧ w' = (w.alloc (.cells #[v] 26)).alloc (.cells #[.slice A n c] 22) := by
  obtain ⟨p, rfl⟩ := hv
  go_enter Try.func19, Try.ntmps19
  go_wp2
  go_ret
  exact ⟨rfl, rfl⟩

set_option maxRecDepth 100000 in
set_option maxHeartbeats 4000000 in
/-- Each's iterator, of no table: no round -/
theorem each42_none (n l : Nat) (hn : 1 ≤ n) (X Y : Nat) (v : Value) (W : World) (hv : NoTb W v) (hX : Boxed W X 26 v) (J : World → Prop) (h0 : J W) :
    CallsIn Fence.wide n Try.prog 42 (#[.func (.yield l) #[] #[]] ++ #[.pointer (some ⟨X, 0, none⟩), .pointer (some ⟨Y, 0, none⟩)]) W fun e W' => (∃ v, e = .returned v) ∧ J W' := by
  refine callsIn_of_wp Try.func42 rfl trivial ?_ rfl
  simp only [Try.ntmps42, List.size_toArray, List.length_cons, List.length_nil, Nat.reduceAdd, Nat.reduceSub, Array.replicate_succ, Array.replicate_zero, List.push_toArray, List.append_toArray, List.nil_append, List.cons_append]
  obtain ⟨p, rfl⟩ := hv.ptr
  have cX := hX.cell
  have f29 : Fence.wide.fn 29 := trivial
  gi_wp2_with fail
  refine (callsIn_wide.2 (is_none _ W hv)).mono ?_
  rintro e w' ⟨rfl, rfl⟩
  gi_wp2
  refine bodyPost_ret (results_none rfl _ _ _) rfl ?_
  exact ⟨⟨_, rfl⟩, h0⟩

set_option maxRecDepth 100000 in
set_option maxHeartbeats 4000000 in
/-- .. of no table: none -/
theorem pairs_none (v : Value) (w : World) (hv : NoTb w v) :
    Calls Try.prog 12 #[v] w fun e w' => e = .returned (.slice none 0 0) ∧ Below w.heap.size w w' := by
  obtain ⟨p, rfl⟩ := hv.ptr
  refine (callsIn_wide (n := 9)).1 ?_
  refine callsIn_of_wp_marks Try.func12 rfl trivial ?_ rfl
  simp only [Try.ntmps12, List.size_toArray, List.length_cons, List.length_nil, Nat.reduceAdd, Nat.reduceSub, Array.replicate_succ, Array.replicate_zero, List.push_toArray, List.append_toArray, List.nil_append, List.cons_append]
  have f38 : Fence.wide.fn 38 := trivial
  have hbL := Blk.new w 55 #[.slice none 0 0]
  have hB0 := (Below.refl _ w).alloc (Nat.le_refl _) (.cells #[.slice none 0 0] 55)
  have hs0 : (w.alloc (.cells #[.slice none 0 0] 55)).heap.size = w.heap.size + 1 := by simp
  gi_wp2_with fail
  generalize w.alloc (.cells #[.slice none 0 0] 55) = w0 at *
  refine (callsIn_wide.2 (all_val (.pointer p) w0 ⟨_, rfl⟩)).mono ?_
  rintro e w' ⟨rfl, rfl⟩
  have hbX := Blk.new w0 26 #[.pointer p]
  have hbL1 := Blk.alloc hbL (.cells #[.pointer p] 26)
  have hB1 := hB0.alloc (by omega) (.cells #[.pointer p] 26)
  have hs1 : (w0.alloc (.cells #[.pointer p] 26)).heap.size = w0.heap.size + 1 := by simp
  rw [hs0] at hbX hs1 ⊢
  generalize w0.alloc (.cells #[.pointer p] 26) = w1 at *
  obtain ⟨S, hS⟩ : ∃ S, w.heap.size = S := ⟨_, rfl⟩
  rw [hS] at hbL hbL1 hB0 hB1 hs0 hs1 hbX ⊢
  clear hB0 hbL hs0
  gi_wp2
  refine wpIn_rangeFunc_W (α := Unit) (n := 9) (by omega) (gf := 51) (lb := #[.pointer (some ⟨S + 1, 0, none⟩)]) rfl (enters_of Try.func51 (by kernel_rfl) rfl)
    0 (fun U V => U = V) (KpA S (S + 1)) (aenc []) (fun _ _ _ => True) (fun _ _ => rfl)
    (fun l J Jx W hW hJ _ hY h0 => (all51_none 8 l (by omega) (S + 1) (.pointer p) W (hv.below (hB1.trans (hW.mono (by omega))) (by omega)) (Blk.below hbX hW (by omega)) (J 0) h0).mono (fun e W' hh => ⟨hh.1, .inl hh.2⟩))
    (fun h k => h.trans k) (fun W l o o' hl _ _ => ⟨⟨rfl, rfl, rfl, by simp, fun k hk => World.putObj_heap_other (by omega)⟩, World.putObj_heap_other (by omega)⟩)
    (fun U V hg k o hk ho _ => by subst hg; exact ho)
    (fun _ W => Below S w W ∧ Boxed W S 55 (.slice none 0 0)) (fun _ _ _ => False)
    (fun i U V hU hg => by subst hg; exact hU) (fun _ _ _ _ h _ => h)
    (fun i W l o o' hW hl ho hc => ⟨below_putObj hW.1 (by omega) o', blk_putObj hW.2 ho hc o'⟩)
    (fun _ _ _ _ _ _ h _ _ _ => h)
    (fun _ _ _ _ _ _ h _ _ _ => h)
    (fun o o' => ⟨(hB1.alloc (by omega) o).alloc (by simp; omega) o', (Blk.alloc (Blk.alloc hbL1 o) o')⟩) ?a1 ?assign ?body ?done ?stop
  case assign =>
    intro l i x W K hK
    simp only [aenc]
    gi_wp2
    exact hK
  case body =>
    rintro l i ⟨⟩ W hi
    omega
  case done =>
    rintro D W hD ⟨hBW, hLW⟩ hK
    have kL := hLW.cell
    gi_wp2
    refine ⟨by simp, .inl ⟨_, _, rfl, run_takeDeferred hK, ?_⟩⟩
    exact ⟨.slice none 0 0, by simp [results, Try.f12, go_sem], rfl, by rw [hS]; exact below_putObj hBW (l := D) (by omega) _⟩
  case stop =>
    rintro D c i W _ _ hh _
    exact hh.elim

end Go.Proofs.Ytkbjbjkgohkkjaa
