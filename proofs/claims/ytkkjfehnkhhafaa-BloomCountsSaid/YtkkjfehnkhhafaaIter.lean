/-
  The iterator of bloom.probes: which places it tells, one behind the other, for every loop body that keeps what lay below a block. Condition: the key reads as bytes, the number of bits is from 1 to 2^32 - 1.
-/
import Derived.RangeFuncNested
import Derived.RangeFuncBound
import Derived.RangeFuncCalls
import Derived.RangeFuncLeaves
import Derived.RangeFuncBox
import Derived.Shelf.Abstract
import Derived.Shelf.RegionOpen
import Derived.Shelf.AbstractIn
import Derived.OwnWalkIn
import Derived.TacticsInMore
import Derived.LoopNIn
import Derived.LoopIn
import Derived.Test.YtkkjfehnkhhafaaSmall
namespace Go.Proofs.Ytkkjfehnkhhafaa
open Go.RowKit Go.Shelf

attribute [local go_sem] Oper.semAt_some

/-- a place of a filter of so many bits -/
abbrev Place (bits : Nat) := { x : Int // 0 ≤ x ∧ x < (bits : Int) }
def encP (bits : Nat) (x : Place bits) : Array Value := #[.int .u32 x.1]

def hAt (h d : Int) : Nat → Int
  | 0 => h
  | k + 1 => (hAt h d k + d) % 4294967296
theorem hAt_range (h d : Int) (h0 : 0 ≤ h) (h1 : h < 4294967296) : ∀ k, 0 ≤ hAt h d k ∧ hAt h d k < 4294967296
  | 0 => ⟨h0, h1⟩
  | k + 1 => by simp only [hAt]; omega
/-- the k-th place of a hash -/
def pl (bits : Nat) (hb : 0 < bits) (x : Int) : Place bits := ⟨x % (bits : Int), Int.emod_nonneg _ (by omega), by have := Int.emod_lt_of_pos x (b := (bits : Int)) (by omega); omega⟩
def plAt (bits : Nat) (hb : 0 < bits) (h : Int) (k : Nat) : Place bits := pl bits hb (hAt h (rot15 h) k)
def upto {α : Type} (f : Nat → α) (k : Nat) : List α := (List.range k).map f
theorem upto_succ {α : Type} (f : Nat → α) (k : Nat) : upto f (k + 1) = upto f k ++ [f k] := by simp [upto, List.range_succ]
theorem upto_length {α : Type} (f : Nat → α) (k : Nat) : (upto f k).length = k := by simp [upto]

/-- block B lies as it lay -/
def KeepAt (B : Nat) (W W' : World) : Prop := W'.heap[B]? = W.heap[B]?
theorem keepAt_t {B : Nat} {X Y Z : World} (h : KeepAt B X Y) (k : KeepAt B Y Z) : KeepAt B X Z := Eq.trans k h
theorem keepAt_b {B : Nat} {w : World} (hB : B < w.heap.size) (W : World) (l : Nat) (o o' : Obj) (hl : w.heap.size ≤ l) (_ : W.heap[l]? = some o) (_ : o.isCells = false) (_ : o.isWalk = false) : KeepAt B W (W.putObj l o') :=
  World.putObj_heap_other (by omega)
theorem keepAt_refl (B : Nat) (W : World) : KeepAt B W W := rfl
theorem KeepAt.cell {B : Nat} {W W' : World} (h : KeepAt B W W') (o : Nat) : W'.cell? ⟨B, o, none⟩ = W.cell? ⟨B, o, none⟩ := World.cell?_of_block (w := W) h

set_option maxRecDepth 100000 in
set_option maxHeartbeats 2000000 in
theorem probes1_in (n : Nat) (l B1 B2 B3 : Nat) (ks : List UInt8) (A : Option Addr) (kn kc many bits : Nat) (hm : many ≤ 255) (hb0 : 0 < bits) (hb1 : bits < 4294967296) (J Jx : List (Place bits) → World → Prop)
    (hn : 1 ≤ n)
    (hY : ∀ pre x W, J pre W → pre.length < many → YieldAt Fence.wide (n - 1) Try.prog l (encP bits x) W fun e W' =>
      (e = .returned (.bool true) ∧ J (pre ++ [x]) W' ∧ KeepAt B3 W W') ∨ (e = .returned (.bool false) ∧ Jx (pre ++ [x]) W'))
    (W : World) (hJd : ∀ pre W n, J pre W → J pre (W.drewN n)) (hc1 : W.cell? ⟨B1, 0, none⟩ = some (.slice A kn kc)) (hc2 : W.cell? ⟨B2, 0, none⟩ = some (.int .i64 (many : Int))) (hc3 : W.cell? ⟨B3, 0, none⟩ = some (.int .u32 (bits : Int)))
    (BK : Nat) (hk : Bs W BK A kn kc ks) (h0 : J [] W) :
    CallsIn Fence.wide n Try.prog 25 #[.func (.yield l) #[] #[], .pointer (some ⟨B1, 0, none⟩), .pointer (some ⟨B2, 0, none⟩), .pointer (some ⟨B3, 0, none⟩)] W fun e W' => (∃ v, e = .returned v) ∧
      ((∃ ys, ys = upto (plAt bits hb0 (hash ks)) many ∧ J ys W') ∨ (∃ pre, (∃ k, k ≤ many ∧ pre = upto (plAt bits hb0 (hash ks)) k) ∧ Jx pre W')) := by
  have hhr := hash_range ks
  refine callsIn_of_wp Try.func25 rfl trivial ?_ rfl
  simp only [Try.ntmps25, List.size_toArray, List.length_cons, List.length_nil, Nat.reduceAdd, Nat.reduceSub, Array.replicate_succ, Array.replicate_zero, List.push_toArray, List.append_toArray, List.nil_append, List.cons_append]
  have f13 : Fence.wide.fn 13 := trivial
  have f26 : Fence.wide.fn 26 := trivial
  have hr0 := rot15_range (hash ks)
  obtain ⟨hh0, hh1⟩ := hhr
  obtain ⟨hr0, hr1⟩ := hr0
  gi_wp2_with (first
    | (gi_at_call 13; refine (callsIn_wide.2 (hash_any ks A kn kc BK _ hk)).mono ?_; rintro e w' ⟨rfl, m0, rfl⟩)
    | (gi_at_call 26; refine (callsIn_wide.2 (rot_any (hash ks) _ hh0 hh1)).mono ?_; rintro e w' ⟨rfl, rfl⟩))
  gi_loopw [5, 12] (fun h i wr => ∃ k : Nat, k ≤ many ∧ i = .int .i64 k ∧ h = .int .u32 (hAt (hash ks) (rot15 (hash ks)) k) ∧ J (upto (plAt bits hb0 (hash ks)) k) wr ∧ KeepAt B3 W wr)
    (fun _ i _ => many - (intOf i).toNat)
  case atStart => exact ⟨0, Nat.zero_le _, rfl, rfl, hJd _ _ _ h0, rfl⟩
  case round =>
    obtain ⟨k, hk', rfl, rfl, hJs, hnx⟩ := hrel
    have hc3' : wr.cell? ⟨B3, 0, none⟩ = some (.int .u32 (bits : Int)) := (hnx.cell 0).trans hc3
    obtain ⟨ha0, ha1⟩ := hAt_range (hash ks) (rot15 (hash ks)) hh0 hh1 k
    by_cases hlt : k < many
    · obtain ⟨fn, tmps, assign, body, hy, hR⟩ := hY _ (plAt bits hb0 (hash ks) k) wr hJs (by rw [upto_length]; exact hlt)
      simp only [encP, plAt, pl] at hy
      gi_wp2
      refine hR.mono ?_
      rintro e W3 (⟨rfl, hJ3, hk3⟩ | ⟨rfl, hJx3⟩)
      · gi_wp2
        go_roundw
        case rel => exact ⟨k + 1, by omega, by simp, by simp only [hAt], by rw [upto_succ]; exact hJ3, keepAt_t hnx hk3⟩
        case measure => simp [intOf]; omega
      · gi_wp2
        refine bodyPost_ret (results_none rfl _ _ _) rfl ?_
        exact ⟨⟨_, rfl⟩, .inr ⟨_, ⟨k + 1, by omega, (upto_succ _ _).symm⟩, hJx3⟩⟩
    · obtain rfl : k = many := by omega
      gi_wp2
      go_end0
      exact ⟨⟨_, rfl⟩, .inl ⟨_, rfl, hJs⟩⟩

theorem abides_drewN {β : Type} {B : Nat} {J : β → World → Prop} (h : AbidesFrom B J) (s : β) (W : World) (n : Nat) (hj : J s W) : J s (W.drewN n) :=
  h s W _ none hj ⟨rfl, rfl, rfl, Nat.le_refl _, fun _ _ _ => rfl⟩ (fun _ e => by cases e)

/-- **probes(key, many, bits) TELLS the places of the key's hash, in order; or the first k of them.** -/
theorem probes_stops (n : Nat) (hn : 1 ≤ n) (B1 B2 B3 BK : Nat) (ks : List UInt8) (A : Option Addr) (kn kc many bits : Nat) (hm : many ≤ 255) (hb0 : 0 < bits) (hb1 : bits < 4294967296) (w : World)
    (h1 : B1 < w.heap.size) (h2 : B2 < w.heap.size) (h3 : B3 < w.heap.size) (hBK : BK ≤ w.heap.size)
    (hc1 : w.cell? ⟨B1, 0, none⟩ = some (.slice A kn kc)) (hc2 : w.cell? ⟨B2, 0, none⟩ = some (.int .i64 (many : Int))) (hc3 : w.cell? ⟨B3, 0, none⟩ = some (.int .u32 (bits : Int))) (hk : Bs w BK A kn kc ks) :
    SeqStopsK Fence.wide n Try.prog 25 #[.pointer (some ⟨B1, 0, none⟩), .pointer (some ⟨B2, 0, none⟩), .pointer (some ⟨B3, 0, none⟩)] (encP bits) (KeepAt B3)
      (fun ys => ys = upto (plAt bits hb0 (hash ks)) many) (fun pre => ∃ k, k ≤ many ∧ pre = upto (plAt bits hb0 (hash ks)) k) many w := fun l J Jx W hW hJ _ hY h0 =>
  probes1_in n l B1 B2 B3 ks A kn kc many bits hm hb0 hb1 J Jx hn hY W (fun pre W n hj => abides_drewN hJ pre W n hj)
    ((hW.cell (p := ⟨B1, 0, none⟩) h1).trans hc1) ((hW.cell (p := ⟨B2, 0, none⟩) h2).trans hc2) ((hW.cell (p := ⟨B3, 0, none⟩) h3).trans hc3) BK (hk.below (hW.mono hBK)) h0

set_option maxHeartbeats 1000000 in
/-- **probes(key, many, n)**: the three parameters are boxed; the function value captures the boxes. -/
theorem probesF_any (A : Option Addr) (kn kc : Nat) (many bits : Int) (w : World) :
    Calls Try.prog 20 #[.slice A kn kc, .int .i64 many, .int .u32 bits] w fun e w' => e = .returned (.func (.func 25) #[] #[.pointer (some ⟨w.heap.size, 0, none⟩), .pointer (some ⟨w.heap.size + 1, 0, none⟩), .pointer (some ⟨w.heap.size + 1 + 1, 0, none⟩)]) ∧
      w' = ((w.alloc (.cells #[.slice A kn kc] 25)).alloc (.cells #[.int .i64 many] 3)).alloc (.cells #[.int .u32 bits] 32) := by
  go_enter Try.func20, Try.ntmps20
  go_wp2
  go_ret
  exact ⟨rfl, rfl⟩

end Go.Proofs.Ytkkjfehnkhhafaa
