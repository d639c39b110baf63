/-
  The walks of slices.Equal and slices.Clone over bytes. Condition: the slices read as such.
-/
import Derived.Test.YtdnhpmdmkdgmpaaPlainU
import Derived.BigQuiet
namespace Go.Proofs.Ytdnhpmdmkdgmpaa
open Go.RowKit

theorem take_snoc (l : List UInt8) (i : Nat) (h : i < l.length) : l.take (i + 1) = l.take i ++ [l[i]] := by
  rw [List.take_add_one, List.getElem?_eq_getElem h]; rfl

set_option maxRecDepth 100000 in
set_option maxHeartbeats 1000000 in
theorem equal_any (ks ls : List UInt8) (A A2 : Option Addr) (n c n2 c2 B B2 : Nat) (w : World) (hk : Bs w B A n c ks) (hl : Bs w B2 A2 n2 c2 ls) :
    Calls Try.prog 27 #[.slice A n c, .slice A2 n2 c2] w fun e w' => e = .returned (.bool (decide (ks = ls))) ∧ ∃ m, w' = w.drewN m := by
  have hlen := hide hk.len
  have hlen2 := hide hl.len
  have hr := hk.reach
  have hr2 := hl.reach
  go_enter Try.func27, Try.ntmps27
  by_cases hn : n = n2
  · subst hn
    go_wp2
    go_loopw [13] (fun t wq => ∃ i m : Nat, i ≤ n ∧ t = .int .i64 (i : Int) ∧ ks.take i = ls.take i ∧ wq = w.drewN m) (fun t _ => n - (intOf t).toNat)
    case atStart => exact ⟨0, 0, by omega, rfl, by simp, rfl⟩
    case round =>
      obtain ⟨i, m, hi, rfl, he, rfl⟩ := hrel
      by_cases hin : i < n
      · have hk1 : i < ks.length := by rw [hlen.out]; exact hin
        have hl1 : i < ls.length := by rw [hlen2.out]; exact hin
        obtain ⟨b1, o1, rfl, _, hc1⟩ := hk.at_ (by omega)
        obtain ⟨b2, o2, rfl, _, hc2⟩ := hl.at_ (by omega)
        have hx1 : w.cell? ⟨b1, o1 + i, none⟩ = some (.int .u8 (ks[i].toNat : Int)) := hc1 i hk1
        have hx2 : w.cell? ⟨b2, o2 + i, none⟩ = some (.int .u8 (ls[i].toNat : Int)) := hc2 i hl1
        have t1 := take_snoc ks i hk1
        have t2 := take_snoc ls i hl1
        have hne : ks[i] ≠ ls[i] → ks ≠ ls := fun hx e => by subst e; exact hx rfl
        have heq : (ks[i].toNat : Int) = (ls[i].toNat : Int) → ks[i] = ls[i] := fun e => UInt8.toNat_inj.1 (by omega)
        have i0 : (0 : Int) ≤ (i : Int) := by omega
        have i1 : (i : Int) < (n : Int) := by omega
        generalize ks[i] = x at *
        generalize ls[i] = y at *
        clear hc1 hc2
        have Ht1 := hide t1
        have Ht2 := hide t2
        clear t1 t2
        by_cases hxy : (x.toNat : Int) = (y.toNat : Int)
        · have Hxy := heq hxy
          clear heq hne
          go_wp2
          go_quiet (fail)
          go_wp2
          go_roundw
          case rel => exact ⟨i + 1, m + nq, by omega, by simp, by rw [Ht1.out, Ht2.out, he, Hxy], rfl⟩
          case measure => simp [intOf]; omega
        · have hd : decide (ks = ls) = false := decide_eq_false (hne fun e => hxy (by rw [e]))
          clear heq hne
          go_wp2
          go_quiet (fail)
          go_wp2
          go_ret
          exact ⟨by rw [hd]; rfl, m + nq, by rw [World.drewN_drewN]⟩
      · obtain rfl : i = n := by omega
        have hd : decide (ks = ls) = true := by
          rw [List.take_of_length_le (by rw [hlen.out]; exact Nat.le_refl _), List.take_of_length_le (by rw [hlen2.out]; exact Nat.le_refl _)] at he
          simp [he]
        go_wp2
        go_ret
        exact ⟨by rw [hd]; rfl, m, rfl⟩
  · have hd : decide (ks = ls) = false := decide_eq_false fun e => hn (by rw [← hlen.out, ← hlen2.out, e])
    have hn' : ¬ (n : Int) = (n2 : Int) := by omega
    go_wp2
    go_ret
    exact ⟨by rw [hd]; rfl, 0, rfl⟩

theorem run_eql_nil22 (w : World) (a : Option Addr) (n c n' c' : Nat) : (binOp .eql 22 (.slice a n c) (.slice none n' c')).run Try.prog w = .ok (.bool a.isNone) w := Lib.run_eql_slice_nil w _ _ a n c n' c' Try.underlying22

theorem bs_none {w : World} {B n c : Nat} {ks : List UInt8} (h : Bs w B none n c ks) : n = 0 ∧ ks = [] := by
  have hl := h.len
  rcases Nat.eq_zero_or_pos n with h0 | h0
  · subst h0; exact ⟨rfl, List.eq_nil_of_length_eq_zero hl⟩
  · obtain ⟨b, off, e, _⟩ := h.at_ h0; cases e

set_option maxRecDepth 100000 in
set_option maxHeartbeats 1000000 in
theorem clone_any (ks : List UInt8) (A : Option Addr) (n c B : Nat) (w : World) (h : Bs w B A n c ks) (hB : B ≤ w.heap.size) :
    Calls Try.prog 28 #[.slice A n c] w (Gives w ks) := by
  have q := run_eql_nil22
  have hr := h.reach
  cases A with
  | none =>
    obtain ⟨rfl, rfl⟩ := bs_none h
    go_enter Try.func28, Try.ntmps28
    go_wp2
    go_ret
    exact ⟨_, rfl, Mine.nil _ _ _, Below.refl _ _⟩
  | some a =>
    obtain ⟨v', w3, hrun, hm, hg, _⟩ := append_mine (P := Try.prog) 22 Try.underlying22 info5 (Mine.made 5 w (Nat.le_refl _)) (by simp) (h.alloc hB (.cells #[] 5)) (by simpa using hr)
    have hBl : Below w.heap.size w w3 := ((Below.refl _ w).alloc (Nat.le_refl _) _).trans ((Mine.made 5 w (Nat.le_refl _)).grown hg (Nat.le_refl _) (by simp))
    go_enter Try.func28, Try.ntmps28
    go_wp2_with (at_builtin; refine wpList_append_run rfl _ _ 22 rfl _ _ _ rfl rfl hrun ?_)
    go_wp2
    go_ret
    exact ⟨v', rfl, hm, hBl⟩

end Go.Proofs.Ytdnhpmdmkdgmpaa
