/-
  The document's table in memory; the walks of its find and of its Search. Condition: it lies there as three lists, the towers as numbers.
-/
import Derived.Test.YtkbjbjkgohkkjaaPrs
import Derived.Laws.Strings
namespace Go.Proofs.Ytkbjbjkgohkkjaa
open Go.RowKit Go.Shelf

def strV (k : List UInt8) : Value := .string ⟨k.toArray⟩
/-- a list of strings in memory of the call's own -/
def MineS (w : World) (base : Nat) (v : Value) (ks : List (List UInt8)) : Prop := w.ownsRow base 9 1 v ks.length (ks.map strV)
theorem MineS.below {w w' : World} {base B : Nat} {v : Value} {ks : List (List UInt8)} (h : MineS w base v ks) (hb : Below B w w') (hB : w.heap.size ≤ B) : MineS w' base v ks :=
  of_heapG h (fun g hg => hb.block g (by have := (owns_ltG h hg).2; omega))

/-- the document's table: its pairs, what it has counted -/
structure Rt (w : World) (R base : Nat) (tw kv vv tv : Value) (ns : List Nd) (cnt : Nat) : Prop where
  tab : Blk w R 72 #[tw, kv, vv, tv, .int .i64 (ns.length : Int), .int .i64 (cnt : Int), .bool false]
  keys : MineS w base kv (ns.map Nd.k)
  vals : MineS w base vv (ns.map Nd.v)
  tall : MineI w base tv (ns.map fun d => (d.t : Int))

section
variable {w w' : World} {R base : Nat} {tw kv vv tv : Value} {ns : List Nd} {cnt : Nat}
theorem Rt.count (h : Rt w R base tw kv vv tv ns cnt) (c : Nat) : Rt (w.setCell ⟨R, 5, none⟩ (.int .i64 (c : Int))) R base tw kv vv tv ns c := by
  have hne : ∀ {t : TypeId} {v : Value} {n : Nat} {xs : List Value}, t ≠ 72 → w.ownsRow base t 1 v n xs → (w.setCell ⟨R, 5, none⟩ (.int .i64 (c : Int))).ownsRow base t 1 v n xs := fun {t v n xs} h1 h2 => of_heapG h2 (fun g hg => Below.heap_setCell w _ _ g (fun e => by
    obtain ⟨cs, r, h3⟩ := ownG h2 hg
    have e' : g = R := e
    subst e'
    have := h3.symm.trans h.tab
    injection this with this
    injection this with _ e2 _
    exact h1 e2))
  exact ⟨h.tab.put 5 _, hne (by decide) h.keys, hne (by decide) h.vals, hne (by decide) h.tall⟩
theorem Rt.below {B : Nat} (h : Rt w R base tw kv vv tv ns cnt) (hb : Below B w w') (hB : w.heap.size ≤ B) : Rt w' R base tw kv vv tv ns cnt :=
  ⟨h.tab.below hb (Nat.lt_of_lt_of_le h.tab.lt hB), h.keys.below hb hB, h.vals.below hb hB, MineI.below h.tall hb hB⟩
theorem Rt.drewN (h : Rt w R base tw kv vv tv ns cnt) (n : Nat) : Rt (w.drewN n) R base tw kv vv tv ns cnt := ⟨h.tab, h.keys, h.vals, h.tall⟩
/-- the keys' slice, the towers' -/
theorem Rt.kslice (h : Rt w R base tw kv vv tv ns cnt) : ∃ A c, kv = .slice A ns.length c ∧ ∀ (i : Nat) (hi : i < ns.length), ∃ b, A = some ⟨b, 0, none⟩ ∧ w.cell? ⟨b, i, none⟩ = some (strV ns[i].k) := by
  rcases h.keys.2 with ⟨rfl, h0⟩ | ⟨g, cap, cur, rfl, hb, hh, hnc, hr⟩
  · exact ⟨none, 0, by rw [show ns.length = 0 by simpa using h0], fun i hi => by rw [show ns.length = 0 by simpa using h0] at hi; omega⟩
  · refine ⟨some ⟨g, 0, none⟩, cap, by simp, fun i hi => ⟨g, rfl, ?_⟩⟩
    have := World.ownsRow.cells h.keys (g := g) rfl i (strV ns[i].k) (by simp [hi])
    rw [Addr.add_lit] at this
    simpa using this
theorem Rt.vslice (h : Rt w R base tw kv vv tv ns cnt) : ∃ A c, vv = .slice A ns.length c ∧ ∀ (i : Nat) (hi : i < ns.length), ∃ b, A = some ⟨b, 0, none⟩ ∧ w.cell? ⟨b, i, none⟩ = some (strV ns[i].v) := by
  rcases h.vals.2 with ⟨rfl, h0⟩ | ⟨g, cap, cur, rfl, hb, hh, hnc, hr⟩
  · exact ⟨none, 0, by rw [show ns.length = 0 by simpa using h0], fun i hi => by rw [show ns.length = 0 by simpa using h0] at hi; omega⟩
  · refine ⟨some ⟨g, 0, none⟩, cap, by simp, fun i hi => ⟨g, rfl, ?_⟩⟩
    have := World.ownsRow.cells h.vals (g := g) rfl i (strV ns[i].v) (by simp [hi])
    rw [Addr.add_lit] at this
    simpa using this
theorem Rt.tslice (h : Rt w R base tw kv vv tv ns cnt) : ∃ A c, tv = .slice A ns.length c ∧ ∀ (i : Nat) (hi : i < ns.length), ∃ b, A = some ⟨b, 0, none⟩ ∧ w.cell? ⟨b, i, none⟩ = some (.int .i64 (ns[i].t : Int)) := by
  rcases h.tall.2 with ⟨rfl, h0⟩ | ⟨g, cap, cur, rfl, hb, hh, hnc, hr⟩
  · exact ⟨none, 0, by rw [show ns.length = 0 by simpa using h0], fun i hi => by rw [show ns.length = 0 by simpa using h0] at hi; omega⟩
  · refine ⟨some ⟨g, 0, none⟩, cap, by simp, fun i hi => ⟨g, rfl, ?_⟩⟩
    have := World.ownsRow.cells h.tall (g := g) rfl i (.int .i64 (ns[i].t : Int)) (by simp [hi, iv])
    rw [Addr.add_lit] at this
    simpa using this
end

/-- what find answers -/
def isN (ns : List Nd) (k : Key) : Bool := ((ns[fnd ns k]?).map Nd.k) == some k

set_option maxRecDepth 100000 in
set_option maxHeartbeats 2000000 in
theorem find_any (R base : Nat) (tw kv vv tv : Value) (ns : List Nd) (cnt : Nat) (k : Key) (w : World) (h : Rt w R base tw kv vv tv ns cnt) (hn : ns.length ≤ 1000000) :
    Calls Try.prog 45 #[.pointer (some ⟨R, 0, none⟩), strV k] w fun e w' => e = .returned (.tuple #[.int .i64 (fnd ns k : Int), .bool (isN ns k)]) ∧ ∃ m, w' = w.drewN m := by
  have hle := fnd_le ns k
  have c1 : w.cell? ⟨R, 1, none⟩ = some kv := h.tab.cell 1
  obtain ⟨A, c, rfl, hcs⟩ := h.kslice
  have Hcs := hide hcs
  have Hb := hide (fun (i : Nat) => fnd_before (ns := ns) (k := k) (i := i))
  have Ha := hide (fnd_at (ns := ns) (k := k))
  clear hcs h
  obtain ⟨N, hN⟩ : ∃ N, ns.length = N := ⟨_, rfl⟩
  have HN := hide hN
  rw [hN] at hle c1 hn
  clear hN
  unfold strV
  go_enter Try.func45, Try.ntmps45
  go_wp2
  go_loopw [6] (fun t6 wq => ∃ i : Nat, i ≤ fnd ns k ∧ t6 = .int .i64 (i : Int) ∧ wq = w) (fun t6 _ => fnd ns k - (intOf t6).toNat)
  case atStart => exact ⟨0, Nat.zero_le _, rfl, rfl⟩
  case round =>
    obtain ⟨i, hi, rfl, rfl⟩ := hrel
    by_cases hlt : i < N
    · obtain ⟨b, rfl, kc⟩ := Hcs.out i (by rw [HN.out]; exact hlt)
      unfold strV at kc
      have hN' := HN.out
      have i0 : (0 : Int) ≤ (i : Int) := by omega
      have i1 : (i : Int) < (N : Int) := by omega
      by_cases hf : i < fnd ns k
      · have hkl : Op.bytesLess ns[i].k k = true := Hb.out i hf
        generalize ns[i].k = ki at *
        clear hN'
        go_wp2
        go_roundw
        case rel => exact ⟨i + 1, by omega, by simp, trivial⟩
        case measure => simp [intOf]; omega
      · have hfi : i = fnd ns k := by omega
        have hkl : Op.bytesLess ns[i].k k = false := by
          subst hfi
          exact Ha.out (by omega)
        have His := hide (show isN ns k = (ns[i].k == k) by
          subst hfi
          have hl : fnd ns k < ns.length := by omega
          simp [isN, List.getElem?_eq_getElem hl])
        have Hfi := hide hfi
        generalize ns[i].k = ki at *
        clear hfi hN'
        have hHS : wr.drew.cell? ⟨R, 1, none⟩ = some (.slice (some ⟨b, 0, none⟩) N c) ∧ wr.drew.cell? ⟨b, i, none⟩ = some (.string ⟨ki.toArray⟩) := ⟨c1, kc⟩
        go_wp2
        refine wp_region_held_drew (S := fun W' => W'.cell? ⟨R, 1, none⟩ = some (.slice (some ⟨b, 0, none⟩) N c) ∧ W'.cell? ⟨b, i, none⟩ = some (.string ⟨ki.toArray⟩)) (by kernel_rfl) (hHS) (fun hHeld => ?_)
        refine wpAnyH_take (i := 0) (v := ?_) rfl (by kernel_rfl) (by kernel_rfl) (by kernel_rfl) (fun _ _ _ h => h) (Or.inl ⟨by kernel_rfl, ?_⟩) (by assumption) ?_
        rotate_left
        · (intro w hSw; (try dsimp only at hSw); go_simp; try with_reducible rfl)
        (try simp only [Act.put, List.getElem_toArray, List.getElem_cons_succ, List.getElem_cons_zero, List.setIfInBounds_toArray, List.set_cons_zero, List.set_cons_succ])
        refine wpAnyH_take (i := 1) (v := ?_) rfl (by kernel_rfl) (by kernel_rfl) (by kernel_rfl) (fun _ _ _ h => h) (Or.inl ⟨by kernel_rfl, ?_⟩) (by assumption) ?_
        rotate_left
        · (intro w hSw; (try dsimp only at hSw); go_simp; try with_reducible rfl)
        (try simp only [Act.put, List.getElem_toArray, List.getElem_cons_succ, List.getElem_cons_zero, List.setIfInBounds_toArray, List.set_cons_zero, List.set_cons_succ])
        refine wpAnyH_take (i := 2) (v := ?_) rfl (by kernel_rfl) (by kernel_rfl) (by kernel_rfl) (fun _ _ _ h => h) (Or.inl ⟨by kernel_rfl, ?_⟩) (by assumption) ?_
        rotate_left
        · (intro w hSw; (try dsimp only at hSw); go_simp; try with_reducible rfl)
        (try simp only [Act.put, List.getElem_toArray, List.getElem_cons_succ, List.getElem_cons_zero, List.setIfInBounds_toArray, List.set_cons_zero, List.set_cons_succ])
        refine wpAnyH_take (i := 3) (v := ?_) rfl (by kernel_rfl) (by kernel_rfl) (by kernel_rfl) (fun _ _ _ h => h) (Or.inl ⟨by kernel_rfl, ?_⟩) (by assumption) ?_
        rotate_left
        · (intro w hSw; (try dsimp only at hSw); go_simp; try with_reducible rfl)
        (try simp only [Act.put, List.getElem_toArray, List.getElem_cons_succ, List.getElem_cons_zero, List.setIfInBounds_toArray, List.set_cons_zero, List.set_cons_succ])
        refine wpAnyH_take (i := 4) (v := ?_) rfl (by kernel_rfl) (by kernel_rfl) (by kernel_rfl) (fun _ _ _ h => h) (Or.inl ⟨by kernel_rfl, ?_⟩) (by assumption) ?_
        rotate_left
        · (intro w hSw; (try dsimp only at hSw); go_simp; try with_reducible rfl)
        (try simp only [Act.put, List.getElem_toArray, List.getElem_cons_succ, List.getElem_cons_zero, List.setIfInBounds_toArray, List.set_cons_zero, List.set_cons_succ])
        refine wpAnyH_take (i := 5) (v := ?_) rfl (by kernel_rfl) (by kernel_rfl) (by kernel_rfl) (fun _ _ _ h => h) (Or.inl ⟨by kernel_rfl, ?_⟩) (by assumption) ?_
        rotate_left
        · (intro w hSw; (try dsimp only at hSw); go_simp; try with_reducible rfl)
        (try simp only [Act.put, List.getElem_toArray, List.getElem_cons_succ, List.getElem_cons_zero, List.setIfInBounds_toArray, List.set_cons_zero, List.set_cons_succ])
        refine wpAnyH_take (i := 6) (v := ?_) rfl (by kernel_rfl) (by kernel_rfl) (by kernel_rfl) (fun _ _ _ h => h) (Or.inl ⟨by kernel_rfl, ?_⟩) (by assumption) ?_
        rotate_left
        · (intro w hSw; (try dsimp only at hSw); go_simp; try with_reducible rfl)
        (try simp only [Act.put, List.getElem_toArray, List.getElem_cons_succ, List.getElem_cons_zero, List.setIfInBounds_toArray, List.set_cons_zero, List.set_cons_succ])
        refine wpAnyH_take (i := 7) (v := ?_) rfl (by kernel_rfl) (by kernel_rfl) (by kernel_rfl) (fun _ _ _ h => h) (Or.inl ⟨by kernel_rfl, ?_⟩) (by assumption) ?_
        rotate_left
        · (intro w hSw; (try dsimp only at hSw); go_simp; try with_reducible rfl)
        (try simp only [Act.put, List.getElem_toArray, List.getElem_cons_succ, List.getElem_cons_zero, List.setIfInBounds_toArray, List.set_cons_zero, List.set_cons_succ])
        refine wpAnyH_take (i := 8) (v := ?_) rfl (by kernel_rfl) (by kernel_rfl) (by kernel_rfl) (fun _ _ _ h => h) (Or.inl ⟨by kernel_rfl, ?_⟩) (by assumption) ?_
        rotate_left
        · (intro w hSw; (try dsimp only at hSw); go_simp; try with_reducible rfl)
        (try simp only [Act.put, List.getElem_toArray, List.getElem_cons_succ, List.getElem_cons_zero, List.setIfInBounds_toArray, List.set_cons_zero, List.set_cons_succ])
        refine wpAnyH_take (i := 9) (v := ?_) rfl (by kernel_rfl) (by kernel_rfl) (by kernel_rfl) (fun _ _ _ h => h) (Or.inl ⟨by kernel_rfl, ?_⟩) (by assumption) ?_
        rotate_left
        · (intro w hSw; (try dsimp only at hSw); go_simp; try with_reducible rfl)
        (try simp only [Act.put, List.getElem_toArray, List.getElem_cons_succ, List.getElem_cons_zero, List.setIfInBounds_toArray, List.set_cons_zero, List.set_cons_succ])
        refine wpAnyH_take (i := 10) (v := ?_) rfl (by kernel_rfl) (by kernel_rfl) (by kernel_rfl) (fun _ _ _ h => h) (Or.inl ⟨by kernel_rfl, ?_⟩) (by assumption) ?_
        rotate_left
        · (intro w hSw; (try dsimp only at hSw); go_simp; try with_reducible rfl)
        (try simp only [Act.put, List.getElem_toArray, List.getElem_cons_succ, List.getElem_cons_zero, List.setIfInBounds_toArray, List.set_cons_zero, List.set_cons_succ])
        refine wpAnyH_take (i := 11) (v := ?_) rfl (by kernel_rfl) (by kernel_rfl) (by kernel_rfl) (fun _ _ _ h => h) (Or.inl ⟨by kernel_rfl, ?_⟩) (by assumption) ?_
        rotate_left
        · (intro w hSw; (try dsimp only at hSw); go_simp; try with_reducible rfl)
        (try simp only [Act.put, List.getElem_toArray, List.getElem_cons_succ, List.getElem_cons_zero, List.setIfInBounds_toArray, List.set_cons_zero, List.set_cons_succ])
        refine wpAnyH_done (by kernel_rfl) ?_ _
        go_wp2
        go_ret2
        exact ⟨by rw [His.out, Hfi.out]; simp, 1, rfl⟩
    · have hiN : i = fnd ns k := by omega
      have hlt' : ¬ i < N := hlt
      have His := hide (show isN ns k = false by
        have hl : ns.length ≤ fnd ns k := by have := HN.out; omega
        simp [isN, List.getElem?_eq_none hl])
      have Hi2 := hide (show i = N by omega)
      have Hfi := hide hiN
      clear hiN
      go_wp2
      go_ret2
      exact ⟨by rw [His.out, Hfi.out.symm, Hi2.out]; rfl, 0, rfl⟩

end Go.Proofs.Ytkbjbjkgohkkjaa
