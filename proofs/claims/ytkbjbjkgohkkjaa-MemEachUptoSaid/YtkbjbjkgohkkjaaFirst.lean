/-
  The walk of First: the first pair from a key on. Condition: the table lies in memory as a skip list does; the key reads as bytes.
-/
import Derived.Test.YtkbjbjkgohkkjaaNew
namespace Go.Proofs.Ytkbjbjkgohkkjaa
open Go.RowKit Go.Shelf

/-- what First gives -/
def Firsted (w : World) (T base : Nat) (tw : List Int) (ns : List Nd) (cnt : Nat) (sl : Bool) (hd : Nw) (ms : List Nw) (k : Key) (e : Ending) (w' : World) : Prop :=
  (∃ kv vv, e = .returned (.tuple #[.agg #[kv, vv], .bool (decide (fnd ns k < ns.length))]) ∧ Mine 5 w' w.heap.size kv (((ns[fnd ns k]?).map Nd.k).getD []) ∧ Mine 5 w' w.heap.size vv (((ns[fnd ns k]?).map Nd.v).getD [])) ∧
    w.grownBy w' (some T) ∧ Tm w' T base tw ns (cnt + cntN ns k) sl hd ms

set_option maxRecDepth 100000 in
set_option maxHeartbeats 2000000 in
theorem first_any (T base : Nat) (tw : List Int) (ns : List Nd) (cnt : Nat) (sl : Bool) (hd : Nw) (ms : List Nw) (k : Key) (A : Option Addr) (n c : Nat) (w : World) (h : Tm w T base tw ns cnt sl hd ms)
    (hk : Bs w w.heap.size A n c k) (hA : 0 < n → ∀ a, A = some a → a.block ≠ T) (hc : cnt + cntN ns k ≤ 4611686018427387904) :
    Calls Try.prog 10 #[.pointer (some ⟨T, 0, none⟩), .slice A n c] w (Firsted w T base tw ns cnt sl hd ms k) := by
  have hal := (Below.refl _ w).alloc (Nat.le_refl _) (.cells #[.slice none 0 0, .slice none 0 0] 24)
  have h1 := h.alloc (.cells #[.slice none 0 0, .slice none 0 0] 24)
  have hk1 := (hk.below hal).more hal.size
  have hb := Blk.new w 24 #[.slice none 0 0, .slice none 0 0]
  have hTl := h.lt
  have hg1 := grown_of_below hal (some T)
  have hs0 : (w.alloc (.cells #[.slice none 0 0, .slice none 0 0] 24)).heap.size = w.heap.size + 1 := by simp
  go_enter Try.func10, Try.ntmps10
  go_wp2_with fail
  generalize w.alloc (.cells #[.slice none 0 0, .slice none 0 0] 24) = w0 at *
  refine (is_any T w0 h1.c0).mono ?_
  rintro e w' ⟨rfl, rfl⟩
  go_wp2_with fail
  refine (sought_any T base tw ns cnt sl hd ms k A n c w0 h1 hk1 hA hc).mono ?_
  rintro e w1 ⟨g, qs, rfl, hg, _, hq0, hqs, hgw, ht1⟩
  have a0 := hqs 0 (by omega)
  rw [hq0] at a0
  have hle := fnd_le ns k
  obtain ⟨x0, hx0, ep, k2, k3, htl⟩ := low_next ht1.sl hle
  rw [ep] at a0
  have i1 : (0 : Int) < (tl ns (fnd ns k) : Int) := by omega
  have hsw := hgw.size
  have hb1 : Blk w1 w.heap.size 24 #[.slice none 0 0, .slice none 0 0] := hb.grown hgw (fun e => by injection e with e; omega)
  have Hgw := hide (grown_trans hg1 hgw)
  have Ht1 := hide ht1
  have Hs0 := hide hs0
  have Hlt := hide (show w.heap.size < w1.heap.size by omega)
  clear hqs hgw ht1 hx0 ep hc hk h hk1 h1 hg1 hal hb hs0 hsw
  by_cases hm : fnd ns k < ns.length
  · obtain ⟨x1, hx1⟩ := Ht1.out.sl.at_ (q := fnd ns k + 1) (by omega)
    have hx1' : ms[fnd ns k]? = some x1 := by simpa using hx1
    rw [pN_some hx1'] at k3
    have hsh := Ht1.out.sl.short _ (List.getElem_mem hm)
    obtain ⟨KA, KL, kc, ekv, hKL, hkb⟩ := Mine.bsL (Ht1.out.sl.kv _ _ _ hx1' (List.getElem?_eq_getElem hm)) (by omega)
    obtain ⟨VA, VL, vc, evv, hVL, hvb⟩ := Mine.bsL (Ht1.out.sl.vv _ _ _ hx1' (List.getElem?_eq_getElem hm)) (by omega)
    have n0 : w1.cell? ⟨x1.b, 0, none⟩ = some (.slice KA KL kc) := by rw [← ekv]; exact (Ht1.out.sl.node _ x1 hx1).cell 0
    have n1 : w1.cell? ⟨x1.b, 1, none⟩ = some (.slice VA VL vc) := by rw [← evv]; exact (Ht1.out.sl.node _ x1 hx1).cell 1
    clear hKL hVL
    go_wp2_with fail
    refine (pair_any x1.b ns[fnd ns k].k ns[fnd ns k].v KA VA KL kc VL vc w1 n0 n1 hkb hvb).mono ?_
    rintro e w2 ⟨kv, vv, rfl, hmk, hmv, hB2⟩
    have hb2 := hb1.below hB2 Hlt.out
    have r0 := hb2.cell 0
    have r1 := hb2.cell 1
    have s0 := hb2.frozen 0
    have s1 := hb2.frozen 1
    obtain ⟨A3, L3, c3, rfl⟩ := mine_shape hmk
    obtain ⟨A4, L4, c4, rfl⟩ := mine_shape hmv
    go_wp2
    obtain ⟨w4, hw4⟩ : ∃ w4, (w2.setCell ⟨w.heap.size, 0, none⟩ (.slice A3 L3 c3)).setCell ⟨w.heap.size, 1, none⟩ (.slice A4 L4 c4) = w4 := ⟨_, rfl⟩
    have hb4 := (hb2.put 0 (.slice A3 L3 c3)).put 1 (.slice A4 L4 c4)
    have m3 := (hmk.setCell (p := ⟨w.heap.size, 0, none⟩) Hlt.out (.slice A3 L3 c3)).setCell (p := ⟨w.heap.size, 1, none⟩) Hlt.out (.slice A4 L4 c4)
    have m4 := (hmv.setCell (p := ⟨w.heap.size, 0, none⟩) Hlt.out (.slice A3 L3 c3)).setCell (p := ⟨w.heap.size, 1, none⟩) Hlt.out (.slice A4 L4 c4)
    have hb1' := hb1
    have ht4 := ((Ht1.out.other hb1' (by decide) (by decide) (by decide) (by decide) (by decide) (w' := w2) (by exact grown_of_below hB2 _)).other (r := w.heap.size) hb2 (by decide) (by decide) (by decide) (by decide) (by decide) (w' := w4) (by rw [← hw4]; exact ⟨rfl, rfl, rfl, by simp, fun q hq hn => by
      rw [Below.heap_setCell _ ⟨w.heap.size, 1, none⟩ _ q (fun e => hn (by rw [e])), Below.heap_setCell _ ⟨w.heap.size, 0, none⟩ _ q (fun e => hn (by rw [e]))]⟩))
    have hg4 : w.grownBy w4 (some T) := by
      rw [← hw4]
      exact grown_at (grown_at (grown_trans Hgw.out (grown_of_below hB2 _)) (.inl (Nat.le_refl _)) 0 _) (.inl (Nat.le_refl _)) 1 _
    rw [hw4] at hb4 m3 m4 ⊢
    have y0 := hb4.cell 0
    have y1 := hb4.cell 1
    have e0 : ((ns[fnd ns k]?).map Nd.k).getD [] = ns[fnd ns k].k := by rw [List.getElem?_eq_getElem hm]; rfl
    have e1 : ((ns[fnd ns k]?).map Nd.v).getD [] = ns[fnd ns k].v := by rw [List.getElem?_eq_getElem hm]; rfl
    have hle2 : w.heap.size ≤ w1.heap.size := Nat.le_of_lt Hlt.out
    refine ⟨rfl, .tuple #[.agg #[.slice A3 L3 c3, .slice A4 L4 c4], .bool true], ?_, ⟨_, _, by rw [decide_eq_true hm], by rw [e0]; exact m3.mono hle2, by rw [e1]; exact m4.mono hle2⟩, hg4, ht4⟩
    simp [results, Try.f10, go_sem, y0, y1]
  · rw [pN_none (i := fnd ns k) (by rw [Ht1.out.sl.len]; omega)] at k3
    have r0 := hb1.cell 0
    have r1 := hb1.cell 1
    have s0 := hb1.frozen 0
    have s1 := hb1.frozen 1
    go_wp2
    obtain ⟨w4, hw4⟩ : ∃ w4, (w1.setCell ⟨w.heap.size, 0, none⟩ (.slice none 0 0)).setCell ⟨w.heap.size, 1, none⟩ (.slice none 0 0) = w4 := ⟨_, rfl⟩
    have hb4 := (hb1.put 0 (.slice none 0 0)).put 1 (.slice none 0 0)
    have ht4 := Ht1.out.other (r := w.heap.size) hb1 (by decide) (by decide) (by decide) (by decide) (by decide) (w' := w4) (by rw [← hw4]; exact ⟨rfl, rfl, rfl, by simp, fun q hq hn => by
      rw [Below.heap_setCell _ ⟨w.heap.size, 1, none⟩ _ q (fun e => hn (by rw [e])), Below.heap_setCell _ ⟨w.heap.size, 0, none⟩ _ q (fun e => hn (by rw [e]))]⟩)
    have hg4 : w.grownBy w4 (some T) := by
      rw [← hw4]
      exact grown_at (grown_at Hgw.out (.inl (Nat.le_refl _)) 0 _) (.inl (Nat.le_refl _)) 1 _
    rw [hw4] at hb4 ⊢
    have y0 := hb4.cell 0
    have y1 := hb4.cell 1
    have e0 : ns[fnd ns k]? = none := List.getElem?_eq_none (by omega)
    refine ⟨rfl, .tuple #[.agg #[.slice none 0 0, .slice none 0 0], .bool false], ?_, ⟨_, _, by rw [decide_eq_false hm], by rw [e0]; exact Mine.nil _ _ _, by rw [e0]; exact Mine.nil _ _ _⟩, hg4, ht4⟩
    simp [results, Try.f10, go_sem, y0, y1]

end Go.Proofs.Ytkbjbjkgohkkjaa
