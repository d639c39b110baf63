/-
  The iterator over all nodes (all, all$1). Condition: the table lies in memory as a skip list does; or nobody made it.
-/
import Derived.Test.YtkbjbjkgohkkjaaFirst
namespace Go.Proofs.Ytkbjbjkgohkkjaa
open Go.RowKit Go.Shelf

attribute [local go_sem] Oper.semAt_some

/-- a cell of its own -/
abbrev Boxed (w : World) (g : Nat) (t : TypeId) (v : Value) : Prop := Blk w g t #[v]
theorem Boxed.cell {w : World} {g : Nat} {t : TypeId} {v : Value} (h : Boxed w g t v) : w.cell? ⟨g, 0, none⟩ = some v := Blk.cell h 0
theorem Boxed.frozen {w : World} {g : Nat} {t : TypeId} {v : Value} (h : Boxed w g t v) : w.frozen? ⟨g, 0, none⟩ = false := Blk.frozen h 0

theorem all_val (v : Value) (w : World) (hv : ∃ p, v = .pointer p) :
    Calls Try.prog 38 #[v] w fun e w' => e = .returned (.func (.func 51) #[] #[.pointer (some ⟨w.heap.size, 0, none⟩)]) ∧ w' = w.alloc (.cells #[v] 26) := by
  obtain ⟨p, rfl⟩ := hv
  go_enter Try.func38, Try.ntmps38
  go_wp2
  go_ret
  exact ⟨rfl, rfl⟩

/-- which node a pointer points to; behind the last: nil -/
def ixP (ms : List Nw) (v : Value) : Nat := match v with | .pointer (some a) => ms.findIdx fun n => n.b == a.block | _ => ms.length
theorem ixP_pN {ms : List Nw} (h : (ms.map Nw.b).Nodup) {i : Nat} (hi : i ≤ ms.length) : ixP ms (pN ms i) = i := by
  rcases Nat.lt_or_ge i ms.length with hl | hl
  · rw [pN_some (List.getElem?_eq_getElem hl)]
    simp only [ixP]
    rw [List.findIdx_eq hl]
    refine ⟨by simp, fun j hj => ?_⟩
    have : ms[j].b ≠ ms[i].b := fun e => by
      have h1 : (ms.map Nw.b)[j]'(by simp; omega) = (ms.map Nw.b)[i]'(by simp; omega) := by simpa using e
      exact absurd ((List.getElem_inj h).1 h1) (by omega)
    simpa using this
  · rw [pN_none hl]
    simp only [ixP]
    omega
/-- what a round keeps: all below M, and block X -/
def KpA (M X : Nat) (A B : World) : Prop := Below M A B ∧ B.heap[X]? = A.heap[X]?
theorem KpA.trans {M X : Nat} {A B C : World} (h : KpA M X A B) (k : KpA M X B C) : KpA M X A C := ⟨h.1.trans k.1, k.2.trans h.2⟩
def aenc (ms : List Nw) (i : Nat) (_ : Unit) : Array Value := #[pN ms i]

set_option maxRecDepth 100000 in
set_option maxHeartbeats 4000000 in
theorem all51_in (n l : Nat) (hn : 1 ≤ n) (T X M base : Nat) (tw : List Int) (ns : List Nd) (cnt : Nat) (sl : Bool) (hd : Nw) (ms : List Nw) (w : World) (hM : w.heap.size = M) (h : Tm w T base tw ns cnt sl hd ms) (J Jx : Nat → World → Prop)
    (hY : ∀ i W x, i < ns.length → J i W → YieldAt Fence.wide (n - 1) Try.prog l (aenc ms i x) W fun e W' => (e = .returned (.bool true) ∧ J (i + 1) W' ∧ KpA M X W W') ∨ (e = .returned (.bool false) ∧ Jx (i + 1) W'))
    (W : World) (hW : Below M w W) (hX : Boxed W X 26 (.pointer (some ⟨T, 0, none⟩))) (h0 : J 0 W) :
    CallsIn Fence.wide n Try.prog 51 (#[.func (.yield l) #[] #[]] ++ #[.pointer (some ⟨X, 0, none⟩)]) W fun e W' => (∃ v, e = .returned v) ∧ (J ns.length W' ∨ ∃ i, i ≤ ns.length ∧ Jx i W') := by
  refine callsIn_of_wp Try.func51 rfl trivial ?_ rfl
  simp only [Try.ntmps51, List.size_toArray, List.length_cons, List.length_nil, Nat.reduceAdd, Nat.reduceSub, Array.replicate_succ, Array.replicate_zero, List.push_toArray, List.append_toArray, List.nil_append, List.cons_append]
  have hTm : ∀ V, Below M w V → Tm V T base tw ns cnt sl hd ms := fun V hV => h.below hV (by omega)
  have HTm := hide hTm
  have hml := hide h.sl.len
  have cX := hX.cell
  have f29 : Fence.wide.fn 29 := trivial
  have ht := hTm W hW
  obtain ⟨tv, hb, _⟩ := ht.tab
  have c2 : W.cell? ⟨T, 2, none⟩ = some (.pointer (some ⟨hd.b, 0, none⟩)) := hb.cell 2
  obtain ⟨x0, hx0, ep, k2, k3, htl⟩ := low_next ht.sl (Nat.zero_le _)
  have e0 : x0 = hd := by simpa using hx0.symm
  subst e0
  have i1 : (0 : Int) < (tl ns 0 : Int) := by omega
  have hnil := hide (fun (i : Nat) (hi : ms.length ≤ i) => pN_none hi)
  have Ht := hide ht
  clear hTm hb ep htl hx0 ht h
  gi_wp2_with fail
  refine (callsIn_wide.2 (is_any T W Ht.out.c0)).mono ?_
  rintro e w' ⟨rfl, rfl⟩
  gi_wp2
  have hnb : (ms.map Nw.b).Nodup := by have := Ht.out.sl.nb; rw [List.map_cons, List.nodup_cons] at this; exact this.2
  have Hix := hide (fun (i : Nat) (hi : i ≤ ms.length) => ixP_pN hnb hi)
  clear c2 k2 k3 hnb cX
  gi_loopw [3] (fun t3 wr => ∃ i : Nat, i ≤ ns.length ∧ t3 = pN ms i ∧ J i wr ∧ Below M w wr ∧ Boxed wr X 26 (.pointer (some ⟨T, 0, none⟩))) (fun t3 wr => ms.length - ixP ms t3)
  case atStart => exact ⟨0, Nat.zero_le _, rfl, h0, hW, hX⟩
  case round =>
    clear h0 hW hX
    obtain ⟨i, hi, rfl, hj, hB, hXr⟩ := hrel
    by_cases hlt : i < ns.length
    · obtain ⟨x1, hx1⟩ := Ht.out.sl.at_ (q := i + 1) (by omega)
      have hx1' : ms[i]? = some x1 := by simpa using hx1
      obtain ⟨fn, tmps, assign, body, hy, hR⟩ := hY i wr () hlt hj
      have ei := Hix.out i (by have := hml.out; omega)
      unfold aenc at hy
      rw [pN_some hx1'] at hy ei ⊢
      gi_wp2
      refine hR.mono ?_
      rintro e w6 (⟨rfl, hj6, hB6⟩ | ⟨rfl, hj6⟩)
      · have hB7 := hB.trans hB6.1
        have hX7 : Boxed w6 X 26 _ := hB6.2.trans hXr
        have ht6 := HTm.out w6 hB7
        obtain ⟨x1', hx1'', ep, k2, k3, htl⟩ := low_next ht6.sl (q := i + 1) (by omega)
        rw [hx1] at hx1''
        injection hx1'' with hx1''
        subst hx1''
        have i2 : (0 : Int) < (tl ns (i + 1) : Int) := by omega
        have Htl := hide htl
        clear ep htl ht6 hy hR
        gi_wp2
        go_roundw
        case rel => exact ⟨i + 1, by omega, rfl, hj6, hB7, hX7⟩
        case measure =>
          have e2 := Hix.out (i + 1) (by have := hml.out; omega)
          rw [e2, ei]
          have := hml.out
          omega
      · clear hy hR
        gi_wp2
        refine bodyPost_ret (results_none rfl _ _ _) rfl ?_
        exact ⟨⟨_, rfl⟩, .inr ⟨i + 1, by omega, hj6⟩⟩
    · obtain rfl : i = ns.length := by omega
      rw [pN_none (i := ns.length) (by have := hml.out; omega)]
      gi_wp2
      refine bodyPost_end (results_none rfl _ _ _) rfl ?_
      exact ⟨⟨_, rfl⟩, .inl hj⟩

/-- .. of no table: no round -/
theorem all51_none (n l : Nat) (hn : 1 ≤ n) (X : Nat) (v : Value) (W : World) (hv : NoTb W v) (hX : Boxed W X 26 v) (J : World → Prop) (h0 : J W) :
    CallsIn Fence.wide n Try.prog 51 (#[.func (.yield l) #[] #[]] ++ #[.pointer (some ⟨X, 0, none⟩)]) W fun e W' => (∃ v, e = .returned v) ∧ J W' := by
  refine callsIn_of_wp Try.func51 rfl trivial ?_ rfl
  simp only [Try.ntmps51, List.size_toArray, List.length_cons, List.length_nil, Nat.reduceAdd, Nat.reduceSub, Array.replicate_succ, Array.replicate_zero, List.push_toArray, List.append_toArray, List.nil_append, List.cons_append]
  obtain ⟨p, rfl⟩ := hv.ptr
  have cX := hX.cell
  have f29 : Fence.wide.fn 29 := trivial
  gi_wp2_with fail
  refine (callsIn_wide.2 (is_none _ W hv)).mono ?_
  rintro e w' ⟨rfl, rfl⟩
  gi_wp2
  refine bodyPost_ret (results_none rfl _ _ _) rfl ?_
  exact ⟨⟨_, rfl⟩, h0⟩

end Go.Proofs.Ytkbjbjkgohkkjaa
