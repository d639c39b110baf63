/-
  A memtable in memory; the walks of Get, Len, Size, Steps, Sealed. Condition: the table lies in memory as a skip list does; the key reads as bytes.
-/
import Derived.Test.YtkbjbjkgohkkjaaSearch
namespace Go.Proofs.Ytkbjbjkgohkkjaa
open Go.RowKit Go.Shelf

def sizeN (ns : List Nd) : Nat := (ns.map fun d => d.k.length + d.v.length).sum
def cntN (ns : List Nd) (k : Key) : Nat := (srch ns k (hi ns) 0).2
/-- what is found at a key -/
def getN (ns : List Nd) (k : Key) : Option (List UInt8) := match ns[fnd ns k]? with | some d => if d.k = k then some d.v else none | none => none

/-- a table that New has given: the towers as they are drawn, the pairs, how often was looked, whether it is sealed -/
structure Tm (w : World) (T base : Nat) (tw : List Int) (ns : List Nd) (cnt : Nat) (sl : Bool) (hd : Nw) (ms : List Nw) : Prop where
  tab : ∃ tv, Blk w T 47 (tc tv hd.b (hi ns : Int) (ns.length : Int) (sizeN ns : Int) (cnt : Int) (cond sl 1 0) 0 (cond sl 1 0)) ∧ MineI w base tv tw
  sl : SL w base ns hd ms
  low : base ≤ T

section
variable {w w' : World} {T base : Nat} {tw : List Int} {ns : List Nd} {cnt : Nat} {sl : Bool} {hd : Nw} {ms : List Nw}
theorem Tm.lt (h : Tm w T base tw ns cnt sl hd ms) : T < w.heap.size := by
  obtain ⟨tv, hb, _⟩ := h.tab
  exact hb.lt
theorem Tm.c0 (h : Tm w T base tw ns cnt sl hd ms) : w.cell? ⟨T, 0, none⟩ = some (.int .i64 1) := by
  obtain ⟨tv, hb, _⟩ := h.tab
  exact hb.cell 0
theorem Tm.c4 (h : Tm w T base tw ns cnt sl hd ms) : w.cell? ⟨T, 4, none⟩ = some (.int .i64 (ns.length : Int)) := by
  obtain ⟨tv, hb, _⟩ := h.tab
  exact hb.cell 4
theorem Tm.c5 (h : Tm w T base tw ns cnt sl hd ms) : w.cell? ⟨T, 5, none⟩ = some (.int .i64 (sizeN ns : Int)) := by
  obtain ⟨tv, hb, _⟩ := h.tab
  exact hb.cell 5
theorem Tm.c6 (h : Tm w T base tw ns cnt sl hd ms) : w.cell? ⟨T, 6, none⟩ = some (.int .i64 (cnt : Int)) := by
  obtain ⟨tv, hb, _⟩ := h.tab
  exact hb.cell 6
theorem Tm.c10 (h : Tm w T base tw ns cnt sl hd ms) : w.cell? ⟨T, 10, none⟩ = some (.int .u32 (cond sl 1 0)) := by
  obtain ⟨tv, hb, _⟩ := h.tab
  exact hb.cell 10
/-- the blocks of the table -/
def Feet (w : World) (T : Nat) (hd : Nw) (ms : List Nw) (g : Nat) : Prop := g = T ∨ Foot hd ms g ∨ ∃ A n c, w.cell? ⟨T, 1, none⟩ = some (.slice A n c) ∧ (Value.slice A n c).ownBlock = some g
theorem Tm.keep (h : Tm w T base tw ns cnt sl hd ms) (hh : ∀ g, base ≤ g → g < w.heap.size → (g = T ∨ Foot hd ms g ∨ ∃ cs r, w.heap[g]? = some (.cells cs 3 r)) → w'.heap[g]? = w.heap[g]?) : Tm w' T base tw ns cnt sl hd ms := by
  obtain ⟨tv, hb, hm⟩ := h.tab
  refine ⟨⟨tv, (hh T h.low hb.lt (.inl rfl)).trans hb, ownsRow_of_heap hm fun g hg => ?_⟩, h.sl.keep fun g hg => hh g (h.sl.foot_kind hg).1 (h.sl.foot_lt hg) (.inr (.inl hg)), h.low⟩
  have h1 := World.ownsRow.lt hm g hg
  obtain ⟨cs, r, h2⟩ := ownsRow_own hm hg
  exact hh g h1.1 h1.2 (.inr (.inr ⟨cs, r, h2⟩))
theorem Tm.below {B : Nat} (h : Tm w T base tw ns cnt sl hd ms) (hb : Below B w w') (hB : w.heap.size ≤ B) : Tm w' T base tw ns cnt sl hd ms := h.keep fun g _ hg _ => hb.block g (by omega)
theorem Tm.alloc (h : Tm w T base tw ns cnt sl hd ms) (o : Obj) : Tm (w.alloc o) T base tw ns cnt sl hd ms := h.below ((Below.refl _ w).alloc (Nat.le_refl _) o) (Nat.le_refl _)
theorem Tm.drewN (h : Tm w T base tw ns cnt sl hd ms) (k : Nat) : Tm (w.drewN k) T base tw ns cnt sl hd ms := h.keep fun _ _ _ _ => rfl
/-- a change of a block that is none of the table's: by its type -/
theorem Tm.other (h : Tm w T base tw ns cnt sl hd ms) {r : Nat} {t : TypeId} {cs : Array Value} {f : Nat × Nat} (hr : w.heap[r]? = some (.cells cs t f)) (h1 : t ≠ 47) (h2 : t ≠ 83) (h3 : t ≠ 28) (h4 : t ≠ 5) (h5 : t ≠ 3) (hg : w.grownBy w' (some r)) : Tm w' T base tw ns cnt sl hd ms :=
  h.keep fun g _ hl hc => hg.block g hl (fun e => by
    injection e with e
    subst e
    rcases hc with rfl | hc | ⟨cs', r', hc⟩
    · obtain ⟨tv, hb, _⟩ := h.tab
      rw [show w.heap[g]? = _ from hb] at hr
      injection hr with hr
      injection hr with _ e _
      exact h1 e.symm
    · exact h.sl.not_foot hr h2 h3 h4 hc
    · rw [hr] at hc
      injection hc with hc
      injection hc with _ e _
      exact h5 e)
end

/-! ### numbers -/
theorem len_any (T base : Nat) (tw : List Int) (ns : List Nd) (cnt : Nat) (sl : Bool) (hd : Nw) (ms : List Nw) (w : World) (h : Tm w T base tw ns cnt sl hd ms) (hn : ns.length ≤ 4611686018427387904) :
    Calls Try.prog 13 #[.pointer (some ⟨T, 0, none⟩)] w fun e w' => e = .returned (.int .i64 (ns.length : Int)) ∧ w = w' := by
  go_enter Try.func13, Try.ntmps13
  go_wp2_with fail
  refine (is_any T w h.c0).mono ?_
  rintro e w' ⟨rfl, rfl⟩
  go_wp2_with fail
  refine (load64_any T 4 _ w h.c4).mono ?_
  rintro e w' ⟨rfl, rfl⟩
  go_wp2
  go_ret
  exact ⟨rfl, rfl⟩
theorem size_any (T base : Nat) (tw : List Int) (ns : List Nd) (cnt : Nat) (sl : Bool) (hd : Nw) (ms : List Nw) (w : World) (h : Tm w T base tw ns cnt sl hd ms) (hn : sizeN ns ≤ 4611686018427387904) :
    Calls Try.prog 14 #[.pointer (some ⟨T, 0, none⟩)] w fun e w' => e = .returned (.int .i64 (sizeN ns : Int)) ∧ w = w' := by
  go_enter Try.func14, Try.ntmps14
  go_wp2_with fail
  refine (is_any T w h.c0).mono ?_
  rintro e w' ⟨rfl, rfl⟩
  go_wp2_with fail
  refine (load64_any T 5 _ w h.c5).mono ?_
  rintro e w' ⟨rfl, rfl⟩
  go_wp2
  go_ret
  exact ⟨rfl, rfl⟩
theorem steps_any (T base : Nat) (tw : List Int) (ns : List Nd) (cnt : Nat) (sl : Bool) (hd : Nw) (ms : List Nw) (w : World) (h : Tm w T base tw ns cnt sl hd ms) (hn : cnt ≤ 4611686018427387904) :
    Calls Try.prog 16 #[.pointer (some ⟨T, 0, none⟩)] w fun e w' => e = .returned (.int .i64 (cnt : Int)) ∧ w = w' := by
  go_enter Try.func16, Try.ntmps16
  go_wp2_with fail
  refine (is_any T w h.c0).mono ?_
  rintro e w' ⟨rfl, rfl⟩
  go_wp2_with fail
  refine (load64_any T 6 _ w h.c6).mono ?_
  rintro e w' ⟨rfl, rfl⟩
  go_wp2
  go_ret
  exact ⟨rfl, rfl⟩
theorem sealed_any (T base : Nat) (tw : List Int) (ns : List Nd) (cnt : Nat) (sl : Bool) (hd : Nw) (ms : List Nw) (w : World) (h : Tm w T base tw ns cnt sl hd ms) :
    Calls Try.prog 18 #[.pointer (some ⟨T, 0, none⟩)] w fun e w' => e = .returned (.bool sl) ∧ w = w' := by
  have hl := loadb_any T 10 _ w h.c10
  go_enter Try.func18, Try.ntmps18
  go_wp2_with fail
  refine (is_any T w h.c0).mono ?_
  rintro e w' ⟨rfl, rfl⟩
  go_wp2_with fail
  refine hl.mono ?_
  rintro e w' ⟨rfl, rfl⟩
  go_wp2
  go_ret
  exact ⟨by cases sl <;> rfl, rfl⟩

/-! ### the search, of a table -/
theorem nxt_zero {ns : List Nd} (ht : ∀ d ∈ ns, 1 ≤ d.t) {p : Nat} (hp : p ≤ ns.length) : nxt ns 0 p = p :=
  nxt_unique (Nat.le_refl _) hp (fun i h1 h2 => by omega) (fun h => by have := ht _ (List.getElem_mem h); omega)

/-- behind a search: the table, and the place just ahead of the key -/
def Sought (w : World) (T base : Nat) (tw : List Int) (ns : List Nd) (cnt : Nat) (sl : Bool) (hd : Nw) (ms : List Nw) (k : Key) (e : Ending) (w' : World) : Prop :=
  ∃ (g : Nat) (qs : Nat → Nat), e = .returned (.slice (some ⟨g, 0, none⟩) 12 12) ∧ w.heap.size ≤ g ∧ (∀ l, l < 12 → Lst ns k l (qs l)) ∧ qs 0 = fnd ns k ∧ (∀ l, l < 12 → w'.cell? ⟨g, l, none⟩ = some (pP hd ms (qs l))) ∧
    w.grownBy w' (some T) ∧ Tm w' T base tw ns (cnt + cntN ns k) sl hd ms

theorem sought_any (T base : Nat) (tw : List Int) (ns : List Nd) (cnt : Nat) (sl : Bool) (hd : Nw) (ms : List Nw) (k : Key) (A : Option Addr) (n c : Nat) (w : World) (h : Tm w T base tw ns cnt sl hd ms)
    (hk : Bs w w.heap.size A n c k) (hA : 0 < n → ∀ a, A = some a → a.block ≠ T) (hc : cnt + cntN ns k ≤ 4611686018427387904) :
    Calls Try.prog 30 #[.pointer (some ⟨T, 0, none⟩), .slice A n c] w (Sought w T base tw ns cnt sl hd ms k) := by
  obtain ⟨tv, hb, hm⟩ := h.tab
  refine (search_any T base tv ns hd ms k A n c _ _ (cnt : Int) _ _ _ w hb h.sl hk hA (by omega) (by unfold cntN at hc; omega)).mono ?_
  rintro e w' ⟨g, qs, rfl, hg, h1, h2, h3, h4⟩
  have hnf := h.sl.not_foot hb (by decide) (by decide) (by decide)
  refine ⟨g, qs, rfl, hg, h1, (h1 0 (by omega)).zero (fun d hd => (h.sl.tall d hd).1), h2, h3, ⟨tv, ?_, ?_⟩, h.sl.grown h3 hnf, h.low⟩
  · have : ((cnt + cntN ns k : Nat) : Int) = (cnt : Int) + ((srch ns k (hi ns) 0).2 : Nat) := by unfold cntN; omega
    rw [this]
    exact h4
  · refine World.ownsRow.kept hm h3 ?_
    cases hv : tv.ownBlock with
    | none => exact .inl rfl
    | some r =>
      right
      intro e
      injection e with e
      subst e
      obtain ⟨cs, f, hr⟩ := ownsRow_own hm hv
      rw [show w.heap[r]? = _ from hb] at hr
      injection hr with hr
      injection hr with _ e _
      cases e

/-- a place's tower on the lowest level: the next place -/
theorem low_next {w : World} {base : Nat} {ns : List Nd} {hd : Nw} {ms : List Nw} (h : SL w base ns hd ms) {q : Nat} (hq : q ≤ ns.length) : ∃ n, (hd :: ms)[q]? = some n ∧ pP hd ms q = .pointer (some ⟨n.b, 0, none⟩) ∧
    w.cell? ⟨n.b, 2, none⟩ = some (.slice (some ⟨n.x, 0, none⟩) (tl ns q) (tl ns q)) ∧ w.cell? ⟨n.x, 0, none⟩ = some (pN ms q) ∧ 0 < tl ns q := by
  obtain ⟨n, hn⟩ := h.at_ hq
  have htl : 0 < tl ns q := by
    rcases q with _ | p
    · rw [tl_zero]; omega
    · rw [tl_succ (by omega)]
      have := (h.tall _ (List.getElem_mem (show p < ns.length by omega))).1
      omega
  have h0 := h.tower hn htl
  rw [nxt_zero (fun d hd => (h.tall d hd).1) hq] at h0
  exact ⟨n, hn, pP_some hn, (h.node q n hn).cell 2, h0, htl⟩

/-- what Get gives -/
def Got (w : World) (T base : Nat) (tw : List Int) (ns : List Nd) (cnt : Nat) (sl : Bool) (hd : Nw) (ms : List Nw) (k : Key) (e : Ending) (w' : World) : Prop :=
  (∃ v, e = .returned (.tuple #[v, .bool (getN ns k).isSome]) ∧ Mine 5 w' w.heap.size v ((getN ns k).getD [])) ∧ w.grownBy w' (some T) ∧ Tm w' T base tw ns (cnt + cntN ns k) sl hd ms

set_option maxRecDepth 100000 in
set_option maxHeartbeats 2000000 in
theorem get_any (T base : Nat) (tw : List Int) (ns : List Nd) (cnt : Nat) (sl : Bool) (hd : Nw) (ms : List Nw) (k : Key) (A : Option Addr) (n c : Nat) (w : World) (h : Tm w T base tw ns cnt sl hd ms)
    (hk : Bs w w.heap.size A n c k) (hA : 0 < n → ∀ a, A = some a → a.block ≠ T) (hc : cnt + cntN ns k ≤ 4611686018427387904) :
    Calls Try.prog 9 #[.pointer (some ⟨T, 0, none⟩), .slice A n c] w (Got w T base tw ns cnt sl hd ms k) := by
  go_enter Try.func9, Try.ntmps9
  go_wp2_with fail
  refine (is_any T w h.c0).mono ?_
  rintro e w' ⟨rfl, rfl⟩
  go_wp2_with fail
  refine (sought_any T base tw ns cnt sl hd ms k A n c w h hk hA hc).mono ?_
  rintro e w1 ⟨g, qs, rfl, hg, _, hq0, hqs, hgw, ht1⟩
  have a0 := hqs 0 (by omega)
  rw [hq0] at a0
  have hle := fnd_le ns k
  obtain ⟨x0, hx0, ep, k2, k3, htl⟩ := low_next ht1.sl hle
  rw [ep] at a0
  have i1 : (0 : Int) < (tl ns (fnd ns k) : Int) := by omega
  have hk1 := bs_grown hk (Nat.le_refl _) hA hgw
  have Hgw := hide hgw
  have Ht1 := hide ht1
  clear hqs hgw ht1 hx0 ep hc hk h
  by_cases hm : fnd ns k < ns.length
  · obtain ⟨x1, hx1⟩ := Ht1.out.sl.at_ (q := fnd ns k + 1) (by omega)
    have hx1' : ms[fnd ns k]? = some x1 := by simpa using hx1
    rw [pN_some hx1'] at k3
    have hsh := Ht1.out.sl.short _ (List.getElem_mem hm)
    obtain ⟨KA, KL, kc, ekv, hKL, hkb⟩ := Mine.bsL (Ht1.out.sl.kv _ _ _ hx1' (List.getElem?_eq_getElem hm)) (by omega)
    obtain ⟨VA, VL, vc, evv, hVL, hvb⟩ := Mine.bsL (Ht1.out.sl.vv _ _ _ hx1' (List.getElem?_eq_getElem hm)) (by omega)
    have n0 : w1.cell? ⟨x1.b, 0, none⟩ = some (.slice KA KL kc) := by rw [← ekv]; exact (Ht1.out.sl.node _ x1 hx1).cell 0
    have n1 : w1.cell? ⟨x1.b, 1, none⟩ = some (.slice VA VL vc) := by rw [← evv]; exact (Ht1.out.sl.node _ x1 hx1).cell 1
    have hgn : getN ns k = if ns[fnd ns k].k = k then some ns[fnd ns k].v else none := by simp [getN, List.getElem?_eq_getElem hm]
    have Hgn := hide hgn
    clear hKL hVL hgn
    go_wp2_with fail
    refine (equal_any ns[fnd ns k].k k KA A KL kc n c _ _ w1 hkb hk1).mono ?_
    rintro e w2 ⟨rfl, rfl⟩
    by_cases he : ns[fnd ns k].k = k
    · have hb : (ns[fnd ns k].k == k) = true := by simpa using he
      go_wp2_with fail
      refine (clone_any ns[fnd ns k].v VA VL vc _ w1 hvb (Nat.le_refl _)).mono ?_
      rintro e w3 ⟨v, rfl, hmv, hB3⟩
      go_wp2
      go_ret2
      refine ⟨⟨v, by rw [Hgn.out, if_pos he]; rfl, by rw [Hgn.out, if_pos he]; exact hmv.mono Hgw.out.size⟩, grown_trans Hgw.out (grown_of_below hB3 _), Ht1.out.below hB3 (Nat.le_refl _)⟩
    · have hb : (ns[fnd ns k].k == k) = false := by simpa using he
      go_wp2
      go_ret2
      refine ⟨⟨_, by rw [Hgn.out, if_neg he]; rfl, by rw [Hgn.out, if_neg he]; exact Mine.nil _ _ _⟩, Hgw.out, Ht1.out⟩
  · rw [pN_none (i := fnd ns k) (by rw [Ht1.out.sl.len]; omega)] at k3
    have hgn : getN ns k = none := by simp [getN, List.getElem?_eq_none (show ns.length ≤ fnd ns k by omega)]
    have Hgn := hide hgn
    clear hgn
    go_wp2
    go_ret2
    refine ⟨⟨_, by rw [Hgn.out]; rfl, by rw [Hgn.out]; exact Mine.nil _ _ _⟩, Hgw.out, Ht1.out⟩

end Go.Proofs.Ytkbjbjkgohkkjaa
