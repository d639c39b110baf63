/-
  The walk of the reference's Each: where the frames begin, what they hold. Condition: the bytes read as such, at most 100000.
-/
import Derived.Test.YtdnhpmdmkdgmpaaLists
namespace Go.Proofs.Ytdnhpmdmkdgmpaa
open Go.RowKit Go.Shelf

theorem info3 : (Try.prog.info? 3).map (fun i => (i.zero, i.size, i.bytes)) = some (some (.int .i64 0), 1, 8) := by kernel_rfl

def posL (b : List UInt8) (i : Nat) : List Int := (List.range i).map fun j => ((posF b j : Nat) : Int)
def payL (b : List UInt8) (i : Nat) : List (List UInt8) := (List.range i).map (payF b)
theorem posL_succ (b : List UInt8) (i : Nat) : posL b (i + 1) = posL b i ++ [((posF b i : Nat) : Int)] := by simp [posL, List.range_succ]
theorem payL_succ (b : List UInt8) (i : Nat) : payL b (i + 1) = payL b i ++ [payF b i] := by simp [payL, List.range_succ]
theorem posL_len (b : List UInt8) (i : Nat) : (posL b i).length = i := by simp [posL]
theorem payL_len (b : List UInt8) (i : Nat) : (payL b i).length = i := by simp [payL]

/-- what the reference's Each gives -/
def EachR (w : World) (b : List UInt8) (N : Nat) (e : Ending) (w' : World) : Prop := ∃ v1 v2, e = .returned (.tuple #[v1, v2]) ∧ MineI w' w.heap.size v1 (posL b N) ∧ MineL 22 5 w' w.heap.size v2 (payL b N) ∧ Below w.heap.size w w'

set_option maxRecDepth 100000 in
set_option maxHeartbeats 2000000 in
theorem refeach_any (all : List UInt8) (A : Option Addr) (n c N : Nat) (w : World) (hks : Bs w w.heap.size A n c all) (hfr : Frames all N) (hn : n ≤ 100000) :
    Calls Try.prog 22 #[.slice A n c] w (EachR w all N) := by
  have hlen := hide hks.len
  have hfr' := hide hfr
  have hNn : N ≤ n := by have := hfr.le; rw [hlen.out] at this; exact this
  clear hfr
  go_enter Try.func22, Try.ntmps22
  go_wp2
  go_loopw [4, 5, 6] (fun t4 t5 t6 wq => ∃ i : Nat, i ≤ N ∧ t6 = .int .i64 ((posF all i : Nat) : Int) ∧ posF all i ≤ n ∧ MineI wq w.heap.size t4 (posL all i) ∧ MineL 22 5 wq w.heap.size t5 (payL all i) ∧ Below w.heap.size w wq) (fun _ _ t6 _ => 2 * n - (intOf t6).toNat)
  case atStart => exact ⟨0, Nat.zero_le _, rfl, Nat.zero_le _, MineI.nil _ _, MineL.nil _ _ _ _, Below.refl _ _⟩
  case round =>
    obtain ⟨i, hi, rfl, hpn, hmi, hml, hB⟩ := hrel
    have hs := hB.size
    have hcap := hks.cap
    have hre := hks.reach
    by_cases hlt : i < N
    · obtain ⟨k2, hu, hnext, hk0, hkl, hpl⟩ := hfr'.out.at_ i hlt
      rw [hlen.out] at hkl
      rw [hnext] at hkl
      have hnx := hide hnext
      clear hnext
      have e1 := hide (posL_succ all i)
      have e2 := hide (payL_succ all i)
      have l1 := posL_len all i
      have l2 := payL_len all i
      generalize hpos : posF all i = k at *
      generalize hpay : payF all i = p at *
      have hcut := run_cut (P := Try.prog) 22 5 Try.underlying22 Try.sizeOf5 A n c .i64 (k : Int) (by omega) (by omega)
      rw [Int.toNat_natCast] at hcut
      have hcall := hide (refunfr_any (all.drop k) _ _ _ wr (((hks.below hB).more hs).cut k))
      rw [show (all.drop k) = all.drop k from rfl] at hu
      generalize posL all i = ps at *
      generalize payL all i = fs at *
      go_wp2_with fail
      refine (hcall.out).mono ?_
      rintro e w1 ⟨hx, hB1⟩
      rw [hu] at hx
      obtain ⟨fv, rfl, hmf⟩ := hx
      obtain ⟨fA, fm, fc, rfl⟩ := mine_shape hmf
      have hs1 := hB1.size
      have hmi1 := (hmi.below hB1 (Nat.le_refl _)).alloc (.cells #[.int .i64 (k : Int)] 3)
      have hml1 := (hml.below hB1 (Nat.le_refl _)).alloc (.cells #[.int .i64 (k : Int)] 3)
      have hmf1 := (hmf.mono hs).alloc (.cells #[.int .i64 (k : Int)] 3)
      have hBa := (hB.trans (hB1.mono hs)).alloc (by omega) (.cells #[.int .i64 (k : Int)] 3)
      obtain ⟨v', w3, hrun, hm3, hg3⟩ := append_int (P := Try.prog) 64 Try.underlying64 info3 hmi1 (by simp; omega) (z := (k : Int)) ((Blk.new w1 3 #[.int .i64 (k : Int)]).cell 0) (by omega)
      have hB3 := hBa.trans (hmi1.grown hg3 (Nat.le_refl _) (by simp; omega))
      have hml3 := hml1.kept hmi1 (by decide) (by decide) hg3
      have hmf3 := hmf1.kept hg3 (own_ne (by decide) hmf1 hmi1)
      have hs3 := hB3.size
      have hml4 := hml3.alloc (.cells #[.slice fA fm fc] 22)
      have hmi4 := hm3.alloc (.cells #[.slice fA fm fc] 22)
      have hmf4 := hmf3.alloc (.cells #[.slice fA fm fc] 22)
      obtain ⟨v5, w5, hrun5, hm5, hg5⟩ := append_list (P := Try.prog) 65 Try.underlying65 info22 (by decide) hml4 (by simp; omega) (h0 := (fA, fm, fc)) hmf4 ((Blk.new w3 22 #[.slice fA fm fc]).cell 0) (by omega)
      have hB5 := (hB3.alloc hs3 (.cells #[.slice fA fm fc] 22)).trans (hml4.grown hg5 (Nat.le_refl _) (by simp; omega))
      obtain ⟨hh, hho, _⟩ := hml4
      have hmi5 := hmi4.kept hho (by decide) hg5
      rw [← e1.out] at hmi5
      rw [← e2.out] at hm5
      have Hrun := hide hrun
      have Hrun5 := hide hrun5
      clear hmi hml hmi1 hml1 hmf1 hm3 hml3 hmf3 hmi4 hmf4 hmf hrun hrun5 hho hg3 hg5 hcut hcall
      go_wp2_with (first
        | (at_builtin; refine wpList_append_run rfl _ _ 64 rfl _ _ _ rfl rfl Hrun.out ?_)
        | (at_builtin; refine wpList_append_run rfl _ _ 65 rfl _ _ _ rfl rfl Hrun5.out ?_))
      go_roundw
      case rel => exact ⟨i + 1, by omega, by rw [hnx.out]; simp, by rw [hnx.out]; exact hkl, hmi5, hm5, hB5⟩
      case measure => simp [intOf]; omega
    · obtain rfl : i = N := by omega
      obtain ⟨ce, hue, hpe⟩ := hfr'.out.stop
      have hce : ¬ ce = 0 := by have := unfr_err hue; omega
      generalize hpos : posF all i = k at *
      have hcut := run_cut (P := Try.prog) 22 5 Try.underlying22 Try.sizeOf5 A n c .i64 (k : Int) (by omega) (by omega)
      rw [Int.toNat_natCast] at hcut
      have hcall := hide (refunfr_any (all.drop k) _ _ _ wr (((hks.below hB).more hs).cut k))
      go_wp2_with fail
      refine (hcall.out).mono ?_
      rintro e w1 ⟨hx, hB1⟩
      rw [hue] at hx
      obtain rfl : e = .returned (.tuple #[.slice none 0 0, .int .i64 0, .int .i64 ce]) := hx
      go_wp2
      go_ret2
      exact ⟨_, _, rfl, hmi.below hB1 (Nat.le_refl _), hml.below hB1 (Nat.le_refl _), hB.trans (hB1.mono hs)⟩

end Go.Proofs.Ytdnhpmdmkdgmpaa
