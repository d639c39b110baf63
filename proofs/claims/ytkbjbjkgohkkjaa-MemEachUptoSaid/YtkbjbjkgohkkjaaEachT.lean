/-
  The iterator of Each: from a key on all pairs, in order, in new memory. Condition: the table lies in memory as a skip list does; the key reads as bytes.
-/
import Derived.Test.YtkbjbjkgohkkjaaMTow
import Derived.Test.YtkbjbjkgohkkjaaAll
namespace Go.Proofs.Ytkbjbjkgohkkjaa
open Go.RowKit Go.Shelf

attribute [local go_sem] Oper.semAt_some

/-- what a round gets: a key and a value, in memory that may be written without harm -/
def EachV (lo : Nat) (hd : Nw) (ms : List Nw) (ns : List Nd) (i : Nat) (W : World) (x : Value × Value) : Prop :=
  ∃ (h : i < ns.length) (A : Option Addr) (L c : Nat) (B : Option Addr) (M d : Nat), x = (.slice A L c, .slice B M d) ∧ Bs W W.heap.size A L c ns[i].k ∧ Bs W W.heap.size B M d ns[i].v ∧ Free lo hd ms W A L
/-- what the table asks of a round: it stays as it is -/
def KpE (T base : Nat) (tw : List Int) (ns : List Nd) (sl : Bool) (hd : Nw) (ms : List Nw) (A B : World) : Prop := ∀ c, Tm A T base tw ns c sl hd ms → Tm B T base tw ns c sl hd ms
/-- what the iterator does between two rounds: the table's steps, new blocks -/
def ItE (T base : Nat) (tw : List Int) (ns : List Nd) (sl : Bool) (hd : Nw) (ms : List Nw) (CB : Nat) (A B : World) : Prop := A.grownBy B (some T) ∧ (∃ c, c ≤ CB ∧ Tm B T base tw ns c sl hd ms) ∧ B.cell? ⟨T, 1, none⟩ = A.cell? ⟨T, 1, none⟩
def eenc (_ : Nat) (x : Value × Value) : Array Value := #[x.1, x.2]

/-- a search leaves the towers as drawn -/
theorem sought_tv (T base : Nat) (tw : List Int) (ns : List Nd) (cnt : Nat) (sl : Bool) (hd : Nw) (ms : List Nw) (k : Key) (A : Option Addr) (n c : Nat) (w : World) (h : Tm w T base tw ns cnt sl hd ms)
    (hk : Bs w w.heap.size A n c k) (hA : 0 < n → ∀ a, A = some a → a.block ≠ T) (hc : cnt + cntN ns k ≤ 4611686018427387904) :
    Calls Try.prog 30 #[.pointer (some ⟨T, 0, none⟩), .slice A n c] w fun e w' => Sought w T base tw ns cnt sl hd ms k e w' ∧ w'.cell? ⟨T, 1, none⟩ = w.cell? ⟨T, 1, none⟩ := by
  obtain ⟨tv, hb, hm⟩ := h.tab
  refine (search_any T base tv ns hd ms k A n c _ _ (cnt : Int) _ _ _ w hb h.sl hk hA (by omega) (by unfold cntN at hc; omega)).mono ?_
  rintro e w' ⟨g, qs, rfl, hg, h1, h2, h3, h4⟩
  have hnf := h.sl.not_foot hb (by decide) (by decide) (by decide)
  refine ⟨⟨g, qs, rfl, hg, h1, (h1 0 (by omega)).zero (fun d hd => (h.sl.tall d hd).1), h2, h3, ⟨tv, ?_, ?_⟩, h.sl.grown h3 hnf, h.low⟩, (h4.cell 1).trans (hb.cell 1).symm⟩
  · have : ((cnt + cntN ns k : Nat) : Int) = (cnt : Int) + ((srch ns k (hi ns) 0).2 : Nat) := by unfold cntN; omega
    rw [this]
    exact h4
  · refine World.ownsRow.kept hm h3 ?_
    cases hv : tv.ownBlock with
    | none => exact .inl rfl
    | some r =>
      right
      intro e
      injection e with e
      subst e
      obtain ⟨cs, f, hr⟩ := ownsRow_own hm hv
      rw [show w.heap[r]? = _ from hb] at hr
      injection hr with hr
      injection hr with _ e _
      cases e

set_option maxRecDepth 100000 in
set_option maxHeartbeats 8000000 in
theorem each42_in (n l : Nat) (hn : 1 ≤ n) (T X Y lo base CB : Nat) (tw : List Int) (ns : List Nd) (cnt : Nat) (sl : Bool) (hd : Nw) (ms : List Nw) (k : Key) (A : Option Addr) (na ca : Nat) (J Jx : Nat → World → Prop) (hlo : lo ≤ T)
    (hJ : ∀ i A B, J i A → ItE T base tw ns sl hd ms CB A B → J i B)
    (hY : ∀ i W x, i < ns.length - fnd ns k → J i W → EachV lo hd ms ns (fnd ns k + i) W x → YieldAt Fence.wide (n - 1) Try.prog l (eenc i x) W fun e W' => (e = .returned (.bool true) ∧ J (i + 1) W' ∧ KpE T base tw ns sl hd ms W W') ∨ (e = .returned (.bool false) ∧ Jx (i + 1) W'))
    (W : World) (h : Tm W T base tw ns cnt sl hd ms) (hk : Bs W W.heap.size A na ca k) (hA : 0 < na → ∀ a, A = some a → a.block ≠ T) (hc : cnt + cntN ns k ≤ CB) (hCB : CB ≤ 4611686018427387904) (hX : Boxed W X 26 (.pointer (some ⟨T, 0, none⟩))) (hYb : Boxed W Y 22 (.slice A na ca)) (h0 : J 0 W) :
    CallsIn Fence.wide n Try.prog 42 (#[.func (.yield l) #[] #[]] ++ #[.pointer (some ⟨X, 0, none⟩), .pointer (some ⟨Y, 0, none⟩)]) W fun e W' => (∃ v, e = .returned v) ∧ (J (ns.length - fnd ns k) W' ∨ ∃ i, i ≤ ns.length - fnd ns k ∧ Jx i W') := by
  refine callsIn_of_wp Try.func42 rfl trivial ?_ rfl
  simp only [Try.ntmps42, List.size_toArray, List.length_cons, List.length_nil, Nat.reduceAdd, Nat.reduceSub, Array.replicate_succ, Array.replicate_zero, List.push_toArray, List.append_toArray, List.nil_append, List.cons_append]
  have cX := hX.cell
  have cY := hYb.cell
  have f29 : Fence.wide.fn 29 := trivial
  have f30 : Fence.wide.fn 30 := trivial
  have f33 : Fence.wide.fn 33 := trivial
  have Hs := hide (sought_tv T base tw ns cnt sl hd ms k A na ca W h hk hA (by omega))
  have Hc := hide hc
  have Hle := hide (fnd_le ns k)
  have HJ := hide hJ
  have HY := hide hY
  have H0 := hide h0
  have Hc0 := hide h.c0
  clear hX hYb hJ hY h0 h hk hA hc
  gi_wp2_with fail
  refine (callsIn_wide.2 (is_any T W Hc0.out)).mono ?_
  rintro e w' ⟨rfl, rfl⟩
  gi_wp2_with fail
  refine (callsIn_wide.2 Hs.out).mono ?_
  rintro e w1 ⟨⟨g, qs, rfl, hg, -, hq0, hqs, hgw, ht1⟩, htv⟩
  have a0 := hqs 0 (by omega)
  rw [hq0] at a0
  obtain ⟨x0, hx0, ep, k2, k3, htl⟩ := low_next ht1.sl Hle.out
  rw [ep] at a0
  have i1 : (0 : Int) < (tl ns (fnd ns k) : Int) := by omega
  have Hj1 := hide (HJ.out 0 W w1 H0.out ⟨hgw, ⟨_, Hc.out, ht1⟩, htv⟩)
  have Ht1 := hide ht1
  clear htv hqs hgw ht1 hx0 ep Hs H0 Hc0 cX cY
  gi_wp2
  have hnb : (ms.map Nw.b).Nodup := by have := Ht1.out.sl.nb; rw [List.map_cons, List.nodup_cons] at this; exact this.2
  have Hix := hide (fun (i : Nat) (hi : i ≤ ms.length) => ixP_pN hnb hi)
  have Hml := hide Ht1.out.sl.len
  obtain ⟨F, hF⟩ : ∃ F, fnd ns k = F := ⟨_, rfl⟩
  rw [hF] at HY Hle ⊢
  have HF := hide hF
  clear a0 k2 k3 i1 htl hF hnb hq0
  gi_loopw [4] (fun t4 wr => ∃ i c : Nat, i ≤ ns.length - F ∧ t4 = pN ms (F + i) ∧ J i wr ∧ c ≤ CB ∧ Tm wr T base tw ns c sl hd ms) (fun t4 wr => ms.length - ixP ms t4)
  case atStart => exact ⟨0, _, Nat.zero_le _, rfl, Hj1.out, Hc.out, Ht1.out⟩
  case round =>
    obtain ⟨i, c, hi, rfl, hj, hcb, htm⟩ := hrel
    by_cases hlt : i < ns.length - F
    · have hFi : F + i < ns.length := by omega
      obtain ⟨x1, hx1⟩ := htm.sl.at_ (q := F + i + 1) (by omega)
      have hx1' : ms[F + i]? = some x1 := by simpa using hx1
      have hsh := htm.sl.short _ (List.getElem_mem hFi)
      obtain ⟨KA, KL, kc, ekv, hKL, hkb⟩ := Mine.bsL (htm.sl.kv _ _ _ hx1' (List.getElem?_eq_getElem hFi)) (by omega)
      obtain ⟨VA, VL, vc, evv, hVL, hvb⟩ := Mine.bsL (htm.sl.vv _ _ _ hx1' (List.getElem?_eq_getElem hFi)) (by omega)
      have n0 : wr.cell? ⟨x1.b, 0, none⟩ = some (.slice KA KL kc) := by rw [← ekv]; exact (htm.sl.node _ x1 hx1).cell 0
      have n1 : wr.cell? ⟨x1.b, 1, none⟩ = some (.slice VA VL vc) := by rw [← evv]; exact (htm.sl.node _ x1 hx1).cell 1
      have ei := Hix.out (F + i) (by have := Hml.out; omega)
      have Hpair := hide (pair_any x1.b ns[F + i].k ns[F + i].v KA VA KL kc VL vc wr n0 n1 hkb hvb)
      have Htm := hide htm
      have Hj := hide hj
      have Hsh := hide hsh
      rw [pN_some hx1'] at ei ⊢
      have Hei := hide ei
      clear n0 n1 hkb hvb hKL hVL ekv evv htm hj hsh ei
      gi_wp2_with fail
      refine (callsIn_wide.2 Hpair.out).mono ?_
      rintro e w2 ⟨kv, vv, rfl, hmk, hmv, hB2⟩
      obtain ⟨A3, L3, c3, rfl, -, -⟩ := Mine.bsL hmk (by have := Hsh.out; omega)
      obtain ⟨A4, L4, c4, rfl, -, -⟩ := Mine.bsL hmv (by have := Hsh.out; omega)
      have hB3 := hB2.alloc hB2.size (.cells #[.slice A3 L3 c3, .slice A4 L4 c4] 24)
      have hmk3 := hmk.alloc (.cells #[.slice A3 L3 c3, .slice A4 L4 c4] 24)
      have hmv3 := hmv.alloc (.cells #[.slice A3 L3 c3, .slice A4 L4 c4] 24)
      have ht3 := Htm.out.below hB3 (Nat.le_refl _)
      have hj3 := HJ.out i wr _ Hj.out ⟨grown_of_below hB3 (some T), ⟨c, hcb, ht3⟩, hB3.cell (p := ⟨T, 1, none⟩) Htm.out.lt⟩
      have hV3 : EachV lo hd ms ns (F + i) (w2.alloc (.cells #[.slice A3 L3 c3, .slice A4 L4 c4] 24)) (.slice A3 L3 c3, .slice A4 L4 c4) := by
        obtain ⟨A', L', c', e1, _, e2⟩ := Mine.bsL hmk3 (by have := Hsh.out; omega)
        injection e1 with e3 e4 e5
        subst e3 e4 e5
        obtain ⟨A', L', c', e1, _, f2⟩ := Mine.bsL hmv3 (by have := Hsh.out; omega)
        injection e1 with e3 e4 e5
        subst e3 e4 e5
        refine ⟨hFi, A3, L3, c3, A4, L4, c4, rfl, e2, f2, fun h0 => ?_⟩
        rcases hmk3.2 with ⟨h1, h2⟩ | ⟨g, cap, cur, e, hb, hh, hnc, hcm, hcs, _⟩
        · have := e2.len; omega
        · injection e with e1 e2' e3
          have hl3 := e2.len
          refine ⟨g, cur, e1, hh, by omega, fun hf => ?_, ?_⟩
          · have := Htm.out.sl.foot_lt hf; omega
          · have := Htm.out.lt; omega
      obtain ⟨fn, tmps, assign, body, hy, hR⟩ := HY.out i _ _ hlt hj3 hV3
      have Ht3 := hide ht3
      clear hmk hmv hB2 hB3 hmk3 hmv3 hj3 hV3 ht3 Hpair
      unfold eenc at hy
      simp only at hy
      gi_wp2
      refine hR.mono ?_
      rintro e w6 (⟨rfl, hj6, hK6⟩ | ⟨rfl, hj6⟩)
      · have ht6 := hK6 c Ht3.out
        obtain ⟨x1', hx1'', ep, k2, k3, htl⟩ := low_next ht6.sl (q := F + i + 1) (by omega)
        rw [hx1] at hx1''
        injection hx1'' with hx1''
        subst hx1''
        have i2 : (0 : Int) < (tl ns (F + i + 1) : Int) := by omega
        have Hj6 := hide hj6
        have Ht6 := hide ht6
        clear ep htl ht6 hy hR hK6 hj6
        gi_wp2
        go_roundw
        case rel => exact ⟨i + 1, c, by omega, rfl, Hj6.out, hcb, Ht6.out⟩
        case measure =>
          have e2 := Hix.out (F + i + 1) (by have := Hml.out; omega)
          rw [e2, Hei.out]
          have := Hml.out
          omega
      · clear hy hR
        gi_wp2
        refine bodyPost_ret (results_none rfl _ _ _) rfl ?_
        exact ⟨⟨_, rfl⟩, .inr ⟨i + 1, by have := HF.out; omega, hj6⟩⟩
    · obtain rfl : i = ns.length - F := by omega
      have hF2 : F + (ns.length - F) = ns.length := by have := Hle.out; omega
      rw [hF2, pN_none (i := ns.length) (by have := Hml.out; omega)]
      have Hj := hide hj
      clear hj htm
      gi_wp2
      refine bodyPost_end (results_none rfl _ _ _) rfl ?_
      exact ⟨⟨_, rfl⟩, .inl (by rw [HF.out]; exact Hj.out)⟩

end Go.Proofs.Ytkbjbjkgohkkjaa
