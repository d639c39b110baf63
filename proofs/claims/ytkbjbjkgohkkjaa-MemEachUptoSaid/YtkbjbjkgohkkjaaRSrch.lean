/-
  The walk of the document's Search: it counts what the program's search counts. Condition: the document's table lies in memory.
-/
import Derived.Test.YtkbjbjkgohkkjaaRef
namespace Go.Proofs.Ytkbjbjkgohkkjaa
open Go.RowKit Go.Shelf

def tmN (ns : List Nd) (i : Nat) : Nat := tmax ((ns.map Nd.t).take i)
theorem tmN_zero (ns : List Nd) : tmN ns 0 = 0 := by simp [tmN, tmax]
theorem tmN_succ {ns : List Nd} {i : Nat} (hi : i < ns.length) : tmN ns (i + 1) = max (tmN ns i) ns[i].t := by
  unfold tmN
  rw [List.take_succ_eq_append_getElem (by simpa using hi), tmax_append]
  simp [tmax]
theorem tmN_all (ns : List Nd) : tmN ns ns.length = hi ns := by
  unfold tmN hi
  rw [List.take_of_length_le (by simp)]
theorem tmN_le {ns : List Nd} (h : ∀ d ∈ ns, d.t ≤ 12) (i : Nat) : tmN ns i ≤ 12 :=
  tmax_bound _ _ fun t ht => by
    obtain ⟨d, hd, rfl⟩ := List.mem_map.1 (List.mem_of_mem_take ht)
    exact h d hd

/-- what Search does -/
def RSought (w : World) (R base : Nat) (tw kv vv tv : Value) (ns : List Nd) (cnt : Nat) (k : Key) (e : Ending) (w' : World) : Prop :=
  (∃ v, e = .returned v) ∧ Rt w' R base tw kv vv tv ns (cnt + cntN ns k) ∧ w.grownBy w' (some R)

set_option maxRecDepth 100000 in
set_option maxHeartbeats 4000000 in
theorem rsearch_any (R base : Nat) (tw kv vv tv : Value) (ns : List Nd) (cnt : Nat) (k : Key) (w : World) (h : Rt w R base tw kv vv tv ns cnt) (hn : ns.length ≤ 1000000) (ht : ∀ d ∈ ns, 1 ≤ d.t ∧ d.t ≤ 12) (ho : Ordered ns)
    (hc : cnt + cntN ns k ≤ 4611686018427387904) : Calls Try.prog 44 #[.pointer (some ⟨R, 0, none⟩), strV k] w (RSought w R base tw kv vv tv ns cnt k) := by
  obtain ⟨A, ck, hkv, -⟩ := h.kslice
  obtain ⟨B, ct, htv, -⟩ := h.tslice
  obtain ⟨N, hN⟩ : ∃ N, ns.length = N := ⟨_, rfl⟩
  have HN := hide hN
  rw [hN] at hkv htv hn
  clear hN
  subst hkv htv
  have HK := hide (fun (W : World) (c : Nat) (hr : Rt W R base tw (.slice A N ck) vv (.slice B N ct) ns c) (i : Nat) (hi : i < ns.length) => (show ∃ b, A = some ⟨b, 0, none⟩ ∧ W.cell? ⟨b, i, none⟩ = some (strV ns[i].k) from by
    obtain ⟨A', c', e, hh⟩ := hr.kslice
    injection e with e1 _ _
    subst e1
    exact hh i hi))
  have HT := hide (fun (W : World) (c : Nat) (hr : Rt W R base tw (.slice A N ck) vv (.slice B N ct) ns c) (i : Nat) (hi : i < ns.length) => (show ∃ b, B = some ⟨b, 0, none⟩ ∧ W.cell? ⟨b, i, none⟩ = some (.int .i64 (ns[i].t : Int)) from by
    obtain ⟨A', c', e, hh⟩ := hr.tslice
    injection e with e1 _ _
    subst e1
    exact hh i hi))
  have Hh := hide h
  have ct0 : w.cell? ⟨R, 3, none⟩ = some (.slice B N ct) := h.tab.cell 3
  have ck0 : w.cell? ⟨R, 1, none⟩ = some (.slice A N ck) := h.tab.cell 1
  have Hho := hide ho
  have Hht := hide ht
  obtain ⟨tot, htot⟩ : ∃ tot, cntN ns k = tot := ⟨_, rfl⟩
  have Htot := hide htot
  rw [htot] at hc
  unfold RSought
  rw [htot]
  clear htot h ht ho
  unfold strV
  go_enter Try.func44, Try.ntmps44
  go_wp2
  go_loopw [4, 5] (fun t4 t5 wq => ∃ i : Nat, i ≤ N ∧ t4 = .int .i64 (tmN ns i : Int) ∧ t5 = .int .i64 (i : Int) ∧ wq = w) (fun _ t5 _ => N - (intOf t5).toNat)
  case atStart => exact ⟨0, Nat.zero_le _, by rw [tmN_zero]; rfl, rfl, rfl⟩
  case round =>
    obtain ⟨i, hil, rfl, rfl, rfl⟩ := hrel
    by_cases hlt : i < N
    · have hlt' : i < ns.length := by have := HN.out; omega
      obtain ⟨b, rfl, kc⟩ := HT.out _ _ Hh.out i hlt'
      have Hsucc := hide (tmN_succ hlt')
      have i0 : (0 : Int) ≤ (i : Int) := by omega
      have i1 : (i : Int) < (N : Int) := by omega
      generalize ns[i].t = ti at *
      generalize tmN ns i = mi at *
      go_wp2
      go_roundw
      case rel =>
        refine ⟨i + 1, by omega, ?_, by simp, trivial⟩
        rw [Hsucc.out]
        congr 1
        by_cases h1 : mi < ti
        · rw [if_pos h1, Nat.max_eq_right (by omega)]
        · rw [if_neg h1, Nat.max_eq_left (by omega)]
      case measure => simp [intOf]; omega
    · obtain rfl : N = i := by omega
      have e0 : tmN ns N = hi ns := by rw [← HN.out]; exact tmN_all ns
      have hhi : hi ns ≤ 12 := by rw [← e0]; exact tmN_le (fun d hd => (Hht.out d hd).2) _
      rw [e0]
      clear e0
      have htop := hide (show 0 + (srch ns k (hi ns) 0).2 = tot by have := Htot.out; unfold cntN at this; omega)
      obtain ⟨H, hH⟩ : ∃ H, hi ns = H := ⟨_, rfl⟩
      rw [hH] at hhi htop ⊢
      clear hH hlt
      go_wp2
      go_loopw [6, 7] (fun t6 t7 wq => ∃ (L p c : Nat), L ≤ H ∧ p ≤ N ∧ t7 = .int .i64 (L : Int) ∧ t6 = .int .i64 ((p : Int) - 1) ∧ c + (srch ns k L p).2 = tot ∧ Rt wq R base tw (.slice A N ck) vv (.slice B N ct) ns (cnt + c) ∧ wr.grownBy wq (some R)) (fun _ t7 _ => (intOf t7).toNat)
      case atStart => exact ⟨H, 0, 0, Nat.le_refl _, Nat.zero_le _, rfl, rfl, htop.out, Hh.out, World.grownBy.refl _ _⟩
      case round =>
        clear ct0 ck0
        obtain ⟨L, p, c0, hL, hp, rfl, rfl, hcnt, hrt, hgw⟩ := hrel
        rcases L with _ | l
        · go_wp2
          refine bodyPost_end (results_none rfl _ _ _) rfl ?_
          have hc0 : c0 = tot := by simpa [srch] using hcnt
          subst hc0
          exact ⟨⟨_, rfl⟩, hrt, hgw⟩
        · have el : ((l + 1 : Nat) : Int) = (l : Int) + 1 := by omega
          rw [el]
          have hstep : c0 + ((rowp ns k l p).2 + (srch ns k l (rowp ns k l p).1).2) = tot := hcnt
          have hl12 : l < 12 := by omega
          go_wp2
          go_loopw [6] (fun t6 wq => ∃ (p' c' : Nat), p' ≤ N ∧ t6 = .int .i64 ((p' : Int) - 1) ∧ c' + (rowp ns k l p').2 = c0 + (rowp ns k l p).2 ∧ (rowp ns k l p').1 = (rowp ns k l p).1 ∧ Rt wq R base tw (.slice A N ck) vv (.slice B N ct) ns (cnt + c') ∧ wr.grownBy wq (some R)) (fun t6 _ => N + 1 - (intOf t6 + 1).toNat)
          case atStart => exact ⟨p, c0, hp, rfl, rfl, rfl, hrt, World.grownBy.refl _ _⟩
          case round =>
            clear hrt
            obtain ⟨p', c', hp', rfl, hc', hr', hrt, hgw'⟩ := hrel
            have hrw := rowp_eq ns k l p' (by have := HN.out; omega)
            have hge := nxt_ge ns l p'
            have hle := nxt_le (ns := ns) (l := l) (p := p') (by have := HN.out; omega)
            rw [HN.out] at hle
            have hNd : ∀ i, p' ≤ i → i < nxt ns l p' → ∀ hi : i < ns.length, ns[i].t ≤ l := fun i h1 h2 hi => nxt_before h1 h2 hi
            have hNa : ∀ h : nxt ns l p' < ns.length, l < ns[nxt ns l p'].t := fun h => nxt_at h
            generalize nxt ns l p' = nx at hrw hge hle hNd hNa
            have HNd := hide hNd
            have HNa := hide hNa
            have Hrw := hide hrw
            have em : (p' : Int) - 1 + 1 = (p' : Int) := by omega
            have kk1 : wr.cell? ⟨R, 1, none⟩ = some (.slice A N ck) := hrt.tab.cell 1
            have kk3 : wr.cell? ⟨R, 3, none⟩ = some (.slice B N ct) := hrt.tab.cell 3
            clear hNd hNa hrw
            go_wp2
            go_loopw [8] (fun t8 wq => ∃ q : Nat, p' ≤ q ∧ q ≤ nx ∧ t8 = .int .i64 (q : Int) ∧ wq = wr) (fun t8 _ => nx - (intOf t8).toNat)
            case atStart => exact ⟨p', Nat.le_refl _, hge, by first | rfl | rw [em], rfl⟩
            case round =>
              obtain ⟨q, hq1, hq2, rfl, rfl⟩ := hrel
              by_cases hqN : q < N
              · have hqn : q < ns.length := by have := HN.out; omega
                obtain ⟨bt, rfl, kct⟩ := HT.out _ _ hrt q hqn
                have i0 : (0 : Int) ≤ (q : Int) := by omega
                have i1 : (q : Int) < (N : Int) := by omega
                by_cases hqx : q < nx
                · have htl : ns[q].t ≤ l := HNd.out q hq1 hqx hqn
                  generalize ns[q].t = tq at *
                  have htl2 : (tq : Int) < (l : Int) + 1 := by omega
                  go_wp2
                  go_roundw
                  case rel => exact ⟨q + 1, by omega, by omega, by simp, trivial⟩
                  case measure => simp [intOf]; omega
                · obtain rfl : nx = q := by omega
                  have htl : l < ns[nx].t := HNa.out hqn
                  have hrw := Hrw.out
                  rw [dif_pos hqn] at hrw
                  obtain ⟨bk, rfl, kck⟩ := HK.out _ _ hrt nx hqn
                  unfold strV at kck
                  have hkl := hide (show klt ns[nx].k k = Op.bytesLess ns[nx].k k from rfl)
                  have hc1 : c' + 1 ≤ tot := by
                    have : 1 ≤ (rowp ns k l p').2 := by rw [hrw]; split <;> simp
                    omega
                  obtain ⟨C, hC⟩ : ∃ C, cnt + c' = C := ⟨_, rfl⟩
                  have hCb : C + 1 ≤ 4611686018427387904 := by omega
                  have kk5 : wr.cell? ⟨R, 5, none⟩ = some (.int .i64 (C : Int)) := by rw [← hC]; exact hrt.tab.cell 5
                  have ff5 := hrt.tab.frozen 5
                  have hbR : bk ≠ R := fun e => by
                    subst e
                    obtain ⟨g, cs, r, e1, e2⟩ : ∃ g cs r, Value.ownBlock (.slice (some ⟨bk, 0, none⟩) N ck) = some g ∧ wr.heap[g]? = some (.cells cs 9 r) := by
                      obtain ⟨cs, r, h2⟩ := ownG hrt.keys (g := bk) rfl
                      exact ⟨bk, cs, r, rfl, h2⟩
                    injection e1 with e1
                    subst e1
                    have := e2.symm.trans hrt.tab
                    injection this with this
                    injection this with _ e _
                    cases e
                  have hwC : IntKind.i64.wrap ((C : Int) + 1) = (C : Int) + 1 := by simp [IntKind.wrap, IntKind.bits, IntKind.signed]; omega
                  have hrt2 := hide (show Rt (wr.setCell ⟨R, 5, none⟩ (.int .i64 ((C : Int) + 1))) R base tw (.slice (some ⟨bk, 0, none⟩) N ck) vv (.slice (some ⟨bt, 0, none⟩) N ct) ns (cnt + (c' + 1)) from by
                    have := hrt.count (cnt + (c' + 1))
                    rw [show ((cnt + (c' + 1) : Nat) : Int) = (C : Int) + 1 by omega] at this
                    exact this)
                  have hgw2 := hide (show _ from grown_at hgw' (.inr rfl : _ ≤ R ∨ R = R) 5 (.int .i64 ((C : Int) + 1)))
                  have qk1 : (wr.setCell ⟨R, 5, none⟩ (.int .i64 ((C : Int) + 1))).cell? ⟨R, 1, none⟩ = some (.slice (some ⟨bk, 0, none⟩) N ck) := hrt2.out.tab.cell 1
                  have qkk : (wr.setCell ⟨R, 5, none⟩ (.int .i64 ((C : Int) + 1))).cell? ⟨bk, nx, none⟩ = some (.string ⟨ns[nx].k.toArray⟩) := (World.cell?_setCell_other _ _ _ _ (fun e => hbR (congrArg Addr.block e).symm)).trans kck
                  have hnN : ¬ nx = N := by omega
                  have htl3 : ¬ (ns[nx].t : Int) < (l : Int) + 1 := by omega
                  have htl4 : ¬ ns[nx].t ≤ l := by omega
                  have Hrw2 := hide hrw
                  have Hrt := hide hrt
                  by_cases hkk : klt ns[nx].k k = true
                  · have hkk2 : Op.bytesLess ns[nx].k k = true := hkk
                    rw [if_pos hkk] at hrw
                    have Hrw3 := hide hrw
                    generalize ns[nx].k = kx at *
                    generalize ns[nx].t = tx at *
                    clear hrw hrt hC hkk
                    go_wp2
                    go_roundw
                    case rel => exact ⟨nx + 1, c' + 1, by omega, by congr 1; omega, by have := congrArg Prod.snd Hrw3.out; simp only at this; omega, by have := congrArg Prod.fst Hrw3.out; simp only at this; omega, hrt2.out, hgw2.out⟩
                    case measure => simp [intOf]; omega
                  · have hkk2 : Op.bytesLess ns[nx].k k = false := Bool.eq_false_iff.2 hkk
                    rw [if_neg hkk] at hrw
                    have e1 := hide (show (rowp ns k l p).1 = p' from by have := congrArg Prod.fst hrw; simp only at this; omega)
                    have e2 := hide (show c' + 1 = c0 + (rowp ns k l p).2 from by have := congrArg Prod.snd hrw; simp only at this; omega)
                    generalize ns[nx].k = kx at *
                    generalize ns[nx].t = tx at *
                    clear hrw hrt hC hkk
                    go_wp2
                    go_roundw
                    case rel => exact ⟨l, p', c' + 1, by omega, hp', by simp, rfl, by have := e1.out; have := e2.out; rw [e1.out] at hstep; omega, hrt2.out, grown_trans hgw hgw2.out⟩
                    case measure => simp [intOf]
              · have hqx : nx = q := by omega
                have hqN2 : q = N := by omega
                have hrw := Hrw.out
                rw [dif_neg (by have := HN.out; omega)] at hrw
                have e1 := hide (show (rowp ns k l p).1 = p' from by have := congrArg Prod.fst hrw; simp only at this; omega)
                have e2 := hide (show c' = c0 + (rowp ns k l p).2 from by have := congrArg Prod.snd hrw; simp only at this; omega)
                have Hrt := hide hrt
                have HqN := hide hqN2
                clear hrw hrt hqx hqN
                subst hqN2
                have hqN : ¬ q < q := Nat.lt_irrefl q
                go_wp2
                go_roundw
                case rel => exact ⟨l, p', c', by omega, hp', by simp, rfl, by have := e1.out; have := e2.out; rw [e1.out] at hstep; omega, Hrt.out, grown_trans hgw hgw'⟩
                case measure => simp [intOf]

end Go.Proofs.Ytkbjbjkgohkkjaa
