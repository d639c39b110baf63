/-
  The walks of slices.Clone (of ints) and of New: an empty table in new memory. Condition: the slice reads as numbers.
-/
import Derived.Test.YtkbjbjkgohkkjaaPut
namespace Go.Proofs.Ytkbjbjkgohkkjaa
open Go.RowKit Go.Shelf

theorem append_ints {P : Program} {t : TypeId} (ty : TypeId) (ht : P.underlying t = some (.slice 3)) (hinfo : (P.info? 3).map (fun i => (i.zero, i.size, i.bytes)) = some (some (.int .i64 0), 1, 8))
    {w : World} {base B : Nat} {v : Value} {ys zs : List Int} (h : MineI w base v ys) (hb : base ≤ w.heap.size) {a : Addr} {n c : Nat} (hk : Sl w B (some a) n c (zs.map iv)) (hlen : ys.length + n ≤ 1000000) :
    ∃ v' w', (Builtin.append_ #[t, t] ty #[v, .slice (some a) n c]).run P w = .ok v' w' ∧ MineI w' base v' (ys ++ zs) ∧ w.grownBy w' v.ownBlock := by
  obtain ⟨i0, hi, hz0, hz1, hz2⟩ := info_parts hinfo
  have hl : zs.length = n := by have := hk.len; simpa using this
  have hc : ∀ j u, (zs.map iv)[j]? = some u → w.cell? (a.add j) = some u := by
    intro j u hj
    obtain ⟨b, off, e, hb, hcc⟩ := hk.row (by intro e; rw [e] at hj; cases hj)
    injection e with e
    subst e
    rw [Addr.add_lit]
    exact hcc j u hj
  obtain ⟨v', w', hr, hown, hg, _, _⟩ := run_append_own_at (P := P) w base t ty 3 i0 (.int .i64 0) 1 8 ht hi hz0 hz1 hz2 rfl (by decide) v ys.length (ys.map iv) h a n c (zs.map iv) (by simp [hl]) hc (by intro u hu; obtain ⟨x, _, rfl⟩ := List.mem_map.1 hu; rfl) (by unfold maxLen; omega) (by omega) hb
  refine ⟨v', w', hr, ?_, hg⟩
  unfold MineI
  rw [List.length_append, hl, List.map_append]
  exact hown
theorem MineI.made (w : World) {base : Nat} (hb : base ≤ w.heap.size) : MineI (w.alloc (.cells #[] 3)) base (.slice (some ⟨w.heap.size, 0, none⟩) 0 0) [] :=
  World.ownsRow_made w #[] 0 hb (Nat.zero_le _) rfl
theorem run_eql_nil27 (w : World) (a : Option Addr) (n c n' c' : Nat) : (binOp .eql 27 (.slice a n c) (.slice none n' c')).run Try.prog w = .ok (.bool a.isNone) w := Lib.run_eql_slice_nil w _ _ a n c n' c' Try.underlying27

set_option maxRecDepth 100000 in
set_option maxHeartbeats 1000000 in
theorem clone_ints (zs : List Int) (A : Option Addr) (n c B : Nat) (w : World) (h : Sl w B A n c (zs.map iv)) (hB : B ≤ w.heap.size) (hn : n ≤ 1000000) :
    Calls Try.prog 46 #[.slice A n c] w fun e w' => ∃ v, e = .returned v ∧ MineI w' w.heap.size v zs ∧ Below w.heap.size w w' := by
  have q := run_eql_nil27
  have hl : zs.length = n := by have := h.len; simpa using this
  cases A with
  | none =>
    have hz : zs = [] := by
      rcases zs with _ | ⟨z, r⟩
      · rfl
      · obtain ⟨b, off, e, _⟩ := h.row (by simp); cases e
    subst hz
    have Hl := hide hl
    clear hl
    go_enter Try.func46, Try.ntmps46
    go_wp2
    go_ret
    exact ⟨_, rfl, MineI.nil _ _, Below.refl _ _⟩
  | some a =>
    obtain ⟨v', w3, hrun, hm, hg⟩ := append_ints (P := Try.prog) 27 Try.underlying27 info3 (MineI.made w (Nat.le_refl _)) (by simp) (Sl.below h ((Below.refl B w).alloc hB (.cells #[] 3))) (by simpa using hn)
    have hBl : Below w.heap.size w w3 := ((Below.refl _ w).alloc (Nat.le_refl _) _).trans ((MineI.made w (Nat.le_refl _)).grown hg (Nat.le_refl _) (by simp))
    have Hl := hide hl
    clear hl
    go_enter Try.func46, Try.ntmps46
    go_wp2_with (at_builtin; refine wpList_append_run rfl _ _ 27 rfl _ _ _ rfl rfl hrun ?_)
    go_wp2
    go_ret
    exact ⟨v', rfl, hm, hBl⟩

/-- an empty table -/
def Empty (w : World) (tw : List Int) (e : Ending) (w' : World) : Prop := ∃ T hd, e = .returned (.pointer (some ⟨T, 0, none⟩)) ∧ Tm w' T w.heap.size tw [] 0 false hd [] ∧ Below w.heap.size w w'

set_option maxRecDepth 100000 in
set_option maxHeartbeats 1000000 in
theorem new_any (zs : List Int) (A : Option Addr) (n c B : Nat) (w : World) (h : Sl w B A n c (zs.map iv)) (hB : B ≤ w.heap.size) (hn : n ≤ 1000000) :
    Calls Try.prog 28 #[.slice A n c] w (Empty w zs) := by
  have hmk : ∀ w : World, (Instr.makeSlice 81 (.int .i64 12) (.int .i64 12)).run Try.prog w = .ok (.slice (some ⟨w.heap.size, 0, none⟩) 12 12) (w.alloc (.cells (nilsA 12) 28)) := fun w => run_make_ptrs 12 (by omega) w
  go_enter Try.func28, Try.ntmps28
  go_wp2_with fail
  refine (clone_ints zs A n c B w h hB hn).mono ?_
  rintro e w1 ⟨tv, rfl, hm, hB1⟩
  have hs1 := hB1.size
  obtain ⟨A1, L1, c1, rfl⟩ : ∃ A1 L1 c1, tv = .slice A1 L1 c1 := by
    rcases hm.2 with ⟨rfl, _⟩ | ⟨g, cap, cur, rfl, _⟩
    · exact ⟨_, _, _, rfl⟩
    · exact ⟨_, _, _, rfl⟩
  clear h
  go_wp2
  go_ret
  have hB2 := ((hB1.alloc hs1 (.cells (tc (.slice A1 L1 c1) (w1.heap.size + 1 + 1) 0 0 0 0 0 0 0) 47)).alloc (by simp; omega) (.cells (nilsA 12) 28)).alloc (by simp; omega)
    (.cells #[.slice none 0 0, .slice none 0 0, .slice (some ⟨w1.heap.size + 1, 0, none⟩) 12 12] 83)
  have b1 := ((Blk.new w1 47 (tc (.slice A1 L1 c1) (w1.heap.size + 1 + 1) 0 0 0 0 0 0 0)).alloc (.cells (nilsA 12) 28)).alloc (.cells #[.slice none 0 0, .slice none 0 0, .slice (some ⟨w1.heap.size + 1, 0, none⟩) 12 12] 83)
  have b2 := (Blk.new (w1.alloc (.cells (tc (.slice A1 L1 c1) (w1.heap.size + 1 + 1) 0 0 0 0 0 0 0) 47)) 28 (nilsA 12)).alloc (.cells #[.slice none 0 0, .slice none 0 0, .slice (some ⟨w1.heap.size + 1, 0, none⟩) 12 12] 83)
  have b3 := Blk.new ((w1.alloc (.cells (tc (.slice A1 L1 c1) (w1.heap.size + 1 + 1) 0 0 0 0 0 0 0) 47)).alloc (.cells (nilsA 12) 28)) 83 #[.slice none 0 0, .slice none 0 0, .slice (some ⟨w1.heap.size + 1, 0, none⟩) 12 12]
  have hm2 := ((hm.alloc (.cells (tc (.slice A1 L1 c1) (w1.heap.size + 1 + 1) 0 0 0 0 0 0 0) 47)).alloc (.cells (nilsA 12) 28)).alloc (.cells #[.slice none 0 0, .slice none 0 0, .slice (some ⟨w1.heap.size + 1, 0, none⟩) 12 12] 83)
  simp only [World.size_alloc] at b2 b3
  refine ⟨w1.heap.size, ⟨w1.heap.size + 1 + 1, w1.heap.size + 1, .slice none 0 0, .slice none 0 0⟩, rfl, ⟨⟨_, b1, hm2⟩, ?_, hs1⟩, hB2⟩
  refine ⟨rfl, fun q n e => ?_, fun q n e => ?_, fun i n d e => by simp at e, fun i n d e => by simp at e, rfl, rfl, by simp, by simp, fun n hn => ?_, fun d hd => by simp at hd, List.Pairwise.nil, fun d hd => by simp at hd⟩
  · rcases q with _ | q
    · simp at e; subst e; exact b3
    · simp at e
  · rcases q with _ | q
    · simp at e
      subst e
      have e2 : (arrV [] [] 0).toArray = nilsA 12 := by
        unfold arrV nilsA
        congr 1
      rw [e2]
      exact b2
    · simp at e
  · simp at hn
    subst hn
    exact ⟨by simp only; omega, by simp only; omega⟩

end Go.Proofs.Ytkbjbjkgohkkjaa
