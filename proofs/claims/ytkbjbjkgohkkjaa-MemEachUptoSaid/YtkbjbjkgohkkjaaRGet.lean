/-
  The walks of the document's Get and First. Condition: the document's table lies in memory.
-/
import Derived.Test.YtkbjbjkgohkkjaaRSrch
namespace Go.Proofs.Ytkbjbjkgohkkjaa
open Go.RowKit Go.Shelf

theorem isN_getN (ns : List Nd) (k : Key) : isN ns k = (getN ns k).isSome := by
  unfold isN getN
  cases ns[fnd ns k]? with
  | none => simp
  | some d =>
    by_cases h : d.k = k
    · simp [h]
    · simp [h]
theorem isN_true {ns : List Nd} {k : Key} (h : isN ns k = true) : ∃ hl : fnd ns k < ns.length, ns[fnd ns k].k = k ∧ getN ns k = some ns[fnd ns k].v := by
  have hlt : fnd ns k < ns.length := by
    rcases Nat.lt_or_ge (fnd ns k) ns.length with h' | h'
    · exact h'
    · simp [isN, List.getElem?_eq_none h'] at h
  have hk : ns[fnd ns k].k = k := by simpa [isN, List.getElem?_eq_getElem hlt] using h
  exact ⟨hlt, hk, by simp [getN, List.getElem?_eq_getElem hlt, hk]⟩

set_option maxRecDepth 100000 in
set_option maxHeartbeats 2000000 in
theorem rget_any (R base : Nat) (tw kv vv tv : Value) (ns : List Nd) (cnt : Nat) (k : Key) (w : World) (h : Rt w R base tw kv vv tv ns cnt) (hn : ns.length ≤ 1000000) (ht : ∀ d ∈ ns, 1 ≤ d.t ∧ d.t ≤ 12) (ho : Ordered ns)
    (hc : cnt + cntN ns k ≤ 4611686018427387904) : Calls Try.prog 26 #[.pointer (some ⟨R, 0, none⟩), strV k] w fun e w' => e = .returned (.tuple #[strV ((getN ns k).getD []), .bool (getN ns k).isSome]) ∧ Rt w' R base tw kv vv tv ns (cnt + cntN ns k) ∧ w.grownBy w' (some R) := by
  have hs := hide (rsearch_any R base tw kv vv tv ns cnt k w h hn ht ho hc)
  have hf := hide (fun (W : World) (hr : Rt W R base tw kv vv tv ns (cnt + cntN ns k)) => find_any R base tw kv vv tv ns _ k W hr hn)
  unfold strV at hs hf ⊢
  go_enter Try.func26, Try.ntmps26
  go_wp2_with fail
  refine hs.out.mono ?_
  rintro e w1 ⟨⟨v, rfl⟩, hr1, hg1⟩
  go_wp2_with fail
  refine (hf.out w1 hr1).mono ?_
  rintro e w2 ⟨rfl, m, rfl⟩
  have hr2 := hr1.drewN m
  have hg2 : w.grownBy (w1.drewN m) (some R) := ⟨hg1.os, hg1.tape, hg1.output, hg1.size, hg1.block⟩
  generalize w1.drewN m = w2 at *
  by_cases his : isN ns k = true
  · obtain ⟨hl, hk, hgn⟩ := isN_true his
    have Hgn := hide hgn
    obtain ⟨A, c, rfl, hcs⟩ := hr2.vslice
    obtain ⟨b, rfl, kc⟩ := hcs _ hl
    have c2 : w2.cell? ⟨R, 2, none⟩ = some (.slice (some ⟨b, 0, none⟩) ns.length c) := hr2.tab.cell 2
    unfold strV at kc
    have i0 : (0 : Int) ≤ (fnd ns k : Int) := by omega
    have i1 : (fnd ns k : Int) < (ns.length : Int) := by omega
    have Hr2 := hide hr2
    rw [his]
    clear hgn hcs hr2 hr1 hk
    go_wp2
    go_ret2
    refine ⟨by rw [Hgn.out]; rfl, Hr2.out, hg2⟩
  · have his' : isN ns k = false := Bool.eq_false_iff.2 his
    have hgn : getN ns k = none := by
      have := isN_getN ns k
      rw [his'] at this
      cases hh : getN ns k with
      | none => rfl
      | some v => rw [hh] at this; cases this
    have Hgn := hide hgn
    have Hr2 := hide hr2
    rw [his']
    clear hgn hr2 hr1
    go_wp2
    go_ret2
    refine ⟨by rw [Hgn.out]; rfl, Hr2.out, hg2⟩

set_option maxRecDepth 100000 in
set_option maxHeartbeats 2000000 in
theorem rfirst_any (R base : Nat) (tw kv vv tv : Value) (ns : List Nd) (cnt : Nat) (k : Key) (w : World) (h : Rt w R base tw kv vv tv ns cnt) (hn : ns.length ≤ 1000000) (ht : ∀ d ∈ ns, 1 ≤ d.t ∧ d.t ≤ 12) (ho : Ordered ns)
    (hc : cnt + cntN ns k ≤ 4611686018427387904) : Calls Try.prog 27 #[.pointer (some ⟨R, 0, none⟩), strV k] w fun e w' => e = .returned (.int .i64 (if fnd ns k < ns.length then (fnd ns k : Int) else -1)) ∧ Rt w' R base tw kv vv tv ns (cnt + cntN ns k) ∧ w.grownBy w' (some R) := by
  have hs := hide (rsearch_any R base tw kv vv tv ns cnt k w h hn ht ho hc)
  have hf := hide (fun (W : World) (hr : Rt W R base tw kv vv tv ns (cnt + cntN ns k)) => find_any R base tw kv vv tv ns _ k W hr hn)
  unfold strV at hs hf ⊢
  have hle := fnd_le ns k
  go_enter Try.func27, Try.ntmps27
  go_wp2_with fail
  refine hs.out.mono ?_
  rintro e w1 ⟨⟨v, rfl⟩, hr1, hg1⟩
  go_wp2_with fail
  refine (hf.out w1 hr1).mono ?_
  rintro e w2 ⟨rfl, m, rfl⟩
  have hr2 := hr1.drewN m
  have hg2 : w.grownBy (w1.drewN m) (some R) := ⟨hg1.os, hg1.tape, hg1.output, hg1.size, hg1.block⟩
  generalize w1.drewN m = w2 at *
  obtain ⟨A, c, rfl, -⟩ := hr2.kslice
  have c1 : w2.cell? ⟨R, 1, none⟩ = some (.slice A ns.length c) := hr2.tab.cell 1
  have Hr2 := hide hr2
  by_cases hl : fnd ns k < ns.length
  · have hne : ¬ fnd ns k = ns.length := by omega
    clear hr2 hr1
    go_wp2
    go_ret
    exact ⟨by first | rfl | (rw [if_pos hl]; rfl), Hr2.out, hg2⟩
  · have he : fnd ns k = ns.length := by omega
    clear hr2 hr1
    go_wp2
    go_ret
    exact ⟨by first | rfl | (rw [if_neg hl]; rfl), Hr2.out, hg2⟩

end Go.Proofs.Ytkbjbjkgohkkjaa
