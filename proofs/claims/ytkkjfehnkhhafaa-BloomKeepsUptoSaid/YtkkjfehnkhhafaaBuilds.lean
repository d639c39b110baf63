/-
  The walk of the law BloomBuilds: it answers true. Condition: the slice reads as lists of bytes, of at most so many elements as memory holds.
-/
import Derived.Test.YtkkjfehnkhhafaaAwake
namespace Go.Proofs.Ytkkjfehnkhhafaa
open Go.RowKit Go.Shelf

theorem below_drewN {B : Nat} {a w : World} (h : Below B a w) (n : Nat) : Below B a (w.drewN n) := ⟨h.os, h.tape, h.output, h.size, h.block⟩

set_option maxRecDepth 100000 in
set_option maxHeartbeats 1000000 in
theorem builds_any (kss : List (List UInt8)) (A : Option Addr) (n c : Nat) (per : Int) (w : World) (h : Bss w w.heap.size A n c kss) (hn : n ≤ 5864062014634) (hp0 : -9223372036854775808 ≤ per) (hp1 : per ≤ 9223372036854775807) :
    Calls Try.prog 3 #[.slice A n c, .int .i64 per] w fun e w' => e = .returned (.bool true) ∧ Below w.heap.size w w' := by
  have hlen := hide h.len
  go_enter Try.func3, Try.ntmps3
  go_wp2_with fail
  refine (awake_any w).mono ?_
  rintro e w1 ⟨rfl, hB1⟩
  have hs1 := hB1.size
  go_wp2_with fail
  refine (few_any kss A n c w.heap.size w1 hn (h.below hB1)).mono ?_
  rintro e w1' ⟨bv, rfl, rfl⟩
  cases bv with
  | false =>
    go_wp2
    go_ret
    exact ⟨rfl, hB1⟩
  | true =>
    go_wp2_with fail
    refine (build_any kss A n c w.heap.size per _ (h.below hB1) hs1 hn hp0 hp1).mono ?_
    rintro e w2 ⟨A2, n2, c2, rfl, hb2, hB2⟩
    have hB2' := hB1.trans (hB2.mono hs1)
    have hs2 := hB2'.size
    go_wp2_with fail
    refine (refbuild_any kss A n c w.heap.size per w2 (h.below hB2') hs2 hn hp0 hp1).mono ?_
    rintro e w3 ⟨A3, n3, c3, rfl, hb3, hB3⟩
    have hB3' := hB2'.trans (hB3.mono hs2)
    have hs3 := hB3'.size
    have e2 := run_str (P := Try.prog) 25 5 9 Try.underlying25 Try.underlying5 Try.underlying9 (hb2.below hB3)
    have e3 := run_str (P := Try.prog) 25 5 9 Try.underlying25 Try.underlying5 Try.underlying9 hb3
    go_wp2_with fail
    refine (probes_any per w3 hp0 hp1).mono ?_
    rintro e w4 ⟨rfl, rfl⟩
    go_wp2_with fail
    refine (refprobes_any per _ hp0 hp1).mono ?_
    rintro e w4 ⟨rfl, rfl⟩
    clear e2 e3
    go_wp2
    go_loopw [47] (fun i wr => ∃ k : Nat, k ≤ n ∧ i = .int .i64 k ∧ Below w.heap.size w wr) (fun i _ => n - (intOf i).toNat)
    case atStart => exact ⟨0, Nat.zero_le _, rfl, hB3'⟩
    case round =>
      obtain ⟨k, hk, rfl, hBr⟩ := hrel
      by_cases hlt : k < n
      · obtain ⟨b, off, rfl, hb, hc⟩ := (h.below hBr).at_ (by omega)
        obtain ⟨Ai, ni, ci, hci, hki⟩ := hc k (by rw [hlen.out]; exact hlt)
        clear hc
        go_wp2_with fail
        refine (hash_any _ Ai ni ci w.heap.size wr hki).mono ?_
        rintro e w5 ⟨rfl, m5, rfl⟩
        go_wp2_with fail
        refine (refhash_any _ Ai ni ci w.heap.size _ (hki.drewN m5)).mono ?_
        rintro e w6 ⟨rfl, m6, rfl⟩
        go_wp2
        go_roundw
        case rel => exact ⟨k + 1, by omega, by simp, below_drewN hBr _⟩
        case measure => simp [intOf]; omega
      · obtain rfl : k = n := by omega
        go_wp2
        go_ret
        exact ⟨rfl, hBr⟩

end Go.Proofs.Ytkkjfehnkhhafaa
