/-
  The reader's Each as an iterator that writes the reader while it runs: its contract, and the loop over it. Condition: the reader's bytes are fields, one behind the other.
-/
import Derived.Test.YtdlbhppoknbnlaaRefRd
import Derived.Test.YtdlbhppoknbnlaaFields
import Derived.Sort.QuietIn
namespace Go.Proofs.Ytdlbhppoknbnlaa
open Go.RowKit Go.Shelf

attribute [local go_sem] Oper.semAt_some

/-- fields, one behind the other -/
def encF (fs : List (List UInt8)) : List UInt8 := (fs.map fun f => uvar f.length ++ f).flatten
theorem encF_at (fs : List (List UInt8)) (i : Nat) (hi : i < fs.length) : (encF fs).drop (encF (fs.take i)).length = (uvar fs[i].length ++ fs[i]) ++ encF (fs.drop (i + 1)) := by
  have h : fs = fs.take i ++ (fs[i] :: fs.drop (i + 1)) := by rw [← List.drop_eq_getElem_cons hi, List.take_append_drop]
  have e : encF fs = encF (fs.take i) ++ ((uvar fs[i].length ++ fs[i]) ++ encF (fs.drop (i + 1))) := by
    unfold encF
    conv => lhs; rw [h]
    rw [List.map_append, List.flatten_append, List.map_cons, List.flatten_cons]
  rw [e, List.drop_left]
theorem encF_take (fs : List (List UInt8)) (i : Nat) (hi : i < fs.length) : (encF (fs.take (i + 1))).length = (encF (fs.take i)).length + (uvar fs[i].length ++ fs[i]).length := by
  have h : fs.take (i + 1) = fs.take i ++ [fs[i]] := by rw [List.take_add_one, List.getElem?_eq_getElem hi]; rfl
  rw [h]
  simp only [encF, List.map_append, List.map_cons, List.map_nil, List.flatten_append, List.flatten_cons, List.flatten_nil, List.append_nil, List.length_append]
theorem encF_le (fs : List (List UInt8)) (i : Nat) : (encF (fs.take i)).length ≤ (encF fs).length := by
  have h : encF fs = encF (fs.take i) ++ encF (fs.drop i) := by
    unfold encF
    rw [← List.flatten_append, ← List.map_append, List.take_append_drop]
  rw [h, List.length_append]
  omega
theorem encF_lt (fs : List (List UInt8)) (i : Nat) (hi : i < fs.length) : (encF (fs.take i)).length < (encF fs).length := by
  have h1 := encF_take fs i hi
  have h2 := encF_le fs (i + 1)
  have h3 := uvar_pos fs[i].length
  rw [List.length_append] at h1
  omega

theorem below_of_grown {w w' : World} {R B : Nat} (hg : w.grownBy w' (some R)) (hB : B ≤ R) (hs : B ≤ w.heap.size) : Below B w w' := (Below.refl B w).grown hg hs (fun j ej => by cases ej; exact hB)

set_option maxRecDepth 100000 in
set_option maxHeartbeats 4000000 in
theorem each70_in (n l : Nat) (hn : 1 ≤ n) (fs : List (List UInt8)) (hfs : ∀ f ∈ fs, f.length ≤ 1048576) (R X N c : Nat) (A : Option Addr) (J : Nat → World → Prop)
    (hJ : ∀ i W W', J i W → W.grownBy W' (some R) → J i W')
    (hRX : R < X) (hN : (encF fs).length = N) (hNr : N ≤ 1000000000) (hfn : fs.length ≤ 1000000)
    (hY : ∀ i W A' L' c', (hi : i < fs.length) → J i W → Bs W W.heap.size A' L' c' fs[i] → YieldAt Fence.wide (n - 1) Try.prog l #[.int .i64 (i : Int), .slice A' L' c'] W fun e W' =>
      e = .returned (.bool true) ∧ J (i + 1) W' ∧ Below (R + 1) W W' ∧ W'.heap[X]? = W.heap[X]?)
    (W : World) (hX : Boxed W X 47 (.pointer (some ⟨R, 0, none⟩))) (hr : Rdr W R A N c 0 0) (hb : Bs W R A N c (encF fs)) (h0 : J 0 W) :
    CallsIn Fence.wide n Try.prog 70 #[.func (.yield l) #[] #[], .pointer (some ⟨X, 0, none⟩)] W fun e W' => (∃ v, e = .returned v) ∧ J fs.length W' ∧ Rdr W' R A N c (N : Int) 0 ∧ W.heap.size ≤ W'.heap.size := by
  refine callsIn_of_wp Try.func70 rfl trivial ?_ rfl
  simp only [Try.ntmps70, List.size_toArray, List.length_cons, List.length_nil, Nat.reduceAdd, Nat.reduceSub, Array.replicate_succ, Array.replicate_zero, List.push_toArray, List.append_toArray, List.nil_append, List.cons_append]
  have hmf : ∀ (fn : Fn) (first cap : Array Value) (w : World), (Instr.makeFunc fn first cap).run Try.prog w = .ok (.func fn first cap) w := fun _ _ _ _ => rfl
  have cX := hX.cell
  have f34 : Fence.wide.fn 34 := trivial
  have f33 : Fence.wide.fn 33 := trivial
  have f29 : Fence.wide.fn 29 := trivial
  gi_wp2
  gi_loopw [4] (fun t4 wr => ∃ i : Nat, i ≤ fs.length ∧ t4 = .int .i64 (i : Int) ∧ J i wr ∧ Rdr wr R A N c (((encF (fs.take i)).length : Nat) : Int) 0 ∧ Bs wr R A N c (encF fs) ∧ Boxed wr X 47 (.pointer (some ⟨R, 0, none⟩)) ∧ W.heap.size ≤ wr.heap.size)
    (fun t4 _ => fs.length - (intOf t4).toNat)
  case atStart => exact ⟨0, Nat.zero_le _, rfl, h0, by simpa [encF] using hr, hb, hX, Nat.le_refl _⟩
  case round =>
    obtain ⟨i, hi, rfl, hj, hr1, hb1, hX1, hsz⟩ := hrel
    have cX1 := hX1.cell
    have r1 : wr.cell? ⟨R, 1, none⟩ = some (.slice A N c) := hr1.cell 1
    have hRl := hr1.lt
    have hle := encF_le fs i
    rw [hN] at hle
    have l34 : ∀ q, CallsIn Fence.wide (n - 1) Try.prog 34 #[.pointer (some ⟨R, 0, none⟩)] (wr.drewN q) fun e w' => e = .returned (.int .i64 0) ∧ ∃ m, w' = wr.drewN m := fun q => callsIn_wide.2 ((err_any R A N c _ _ (wr.drewN q) hr1).mono fun e w' ⟨a, b⟩ => ⟨a, q, b.symm⟩)
    have l33 : ∀ q, CallsIn Fence.wide (n - 1) Try.prog 33 #[.pointer (some ⟨R, 0, none⟩)] (wr.drewN q) fun e w' => e = .returned (.int .i64 (((encF (fs.take i)).length : Nat) : Int)) ∧ ∃ m, w' = wr.drewN m := fun q => callsIn_wide.2 ((at_any R A N c _ _ (wr.drewN q) hr1).mono fun e w' ⟨a, b⟩ => ⟨a, q, b.symm⟩)
    have L34 := hide l34
    have L33 := hide l33
    clear l34 l33
    by_cases hlt : i < fs.length
    · have hk := encF_lt fs i hlt
      have hd := encF_at fs i hlt
      have ht := encF_take fs i hlt
      rw [hN] at hk
      have hfl := hfs fs[i] (List.getElem_mem hlt)
      have hul := uvar_len10 fs[i].length (by omega)
      generalize hpos : (encF (fs.take i)).length = k at *
      have hG := fun (q : Nat) => rfield_any R N c k 0 A (encF fs) (wr.drewN q) hr1 (hb1.drewN q) (by omega)
      rw [hd, readF_field fs[i] _ hfl, nxt_ok] at hG
      have HG := hide hG
      clear hG
      have hkI : (k : Int) < (N : Int) := by omega
      gi_wp2
      gi_quiet (first | exact L34.out _ | exact L33.out _)
      have hgq : wr.grownBy (wr.drewN nq) (some R) := ⟨rfl, rfl, rfl, Nat.le_refl _, fun _ _ _ => rfl⟩
      gi_wp2_with fail
      refine (callsIn_wide.2 (HG.out nq)).mono ?_
      rintro e w1 ⟨hg1, hr2, v, rfl, hm1⟩
      have hg2 : wr.grownBy w1 (some R) := ⟨hg1.os, hg1.tape, hg1.output, hg1.size, fun j hj hn => hg1.block j hj hn⟩
      obtain ⟨A', L', c', rfl, hL, hbv⟩ := Mine.bsL hm1 (by omega)
      clear hL
      have hX2 : Boxed w1 X 47 (.pointer (some ⟨R, 0, none⟩)) := hX1.kept hg2 (by simp; omega)
      have cX2 := hX2.cell
      have r3 : w1.cell? ⟨R, 3, none⟩ = some (.int .i64 0) := hr2.cell 3
      have hb2 : Bs w1 R A N c (encF fs) := hb1.below (below_of_grown hg2 (Nat.le_refl _) (by omega))
      obtain ⟨fn, tmps, assign, body, hy, hR⟩ := hY i w1 A' L' c' hlt (hJ i wr w1 hj hg2) hbv
      gi_wp2
      refine hR.mono ?_
      rintro e w3 ⟨rfl, hj3, hB3, hX3⟩
      gi_wp2
      go_roundw
      case rel => exact ⟨i + 1, by omega, by simp, hj3, by rw [ht]; exact hr2.below hB3 (by omega), hb2.below (hB3.mono (by omega)), hX3.trans hX2, by have := hB3.size; have := hg2.size; omega⟩
      case measure => simp [intOf]; omega
    · obtain rfl : i = fs.length := by omega
      rw [List.take_length] at *
      have hN' : ¬ (((encF fs).length : Nat) : Int) < (N : Int) := by omega
      gi_wp2
      gi_quiet (first | exact L34.out _ | exact L33.out _)
      gi_wp2
      go_end0
      have hgq : wr.grownBy (wr.drewN nq) (some R) := ⟨rfl, rfl, rfl, Nat.le_refl _, fun _ _ _ => rfl⟩
      exact ⟨⟨_, rfl⟩, hJ _ _ _ hj hgq, by have h9 := hr1; rw [hN] at h9; exact h9, hsz⟩

end Go.Proofs.Ytdlbhppoknbnlaa
