/-
  slices.Values of a slice of bytes: it tells the elements, one behind the other, for every loop body that keeps the slice's own cells. Condition: the slice reads as such.
-/
import Derived.RangeFuncNested
import Derived.RangeFuncBound
import Derived.RangeFuncCalls
import Derived.RangeFuncLeaves
import Derived.RangeFuncBox
import Derived.Shelf.Abstract
import Derived.Shelf.RegionOpen
import Derived.Shelf.AbstractIn
import Derived.OwnWalkIn
import Derived.TacticsInMore
import Derived.LoopNIn
import Derived.LoopIn
import Derived.Test.YtdnhpmdmkdgmpaaOnce
namespace Go.Proofs.Ytdnhpmdmkdgmpaa
open Go.RowKit Go.Shelf

attribute [local go_sem] Oper.semAt_some

def encB (x : UInt8) : Array Value := #[.int .u8 (x.toNat : Int)]

/-- blocks B1 and B2 lie as they lay -/
def KeepAt (B1 B2 : Nat) (W W' : World) : Prop := W'.heap[B1]? = W.heap[B1]? ∧ W'.heap[B2]? = W.heap[B2]?
theorem keepAt_t {B1 B2 : Nat} {X Y Z : World} (h : KeepAt B1 B2 X Y) (k : KeepAt B1 B2 Y Z) : KeepAt B1 B2 X Z := ⟨Eq.trans k.1 h.1, Eq.trans k.2 h.2⟩
theorem keepAt_b {B1 B2 : Nat} {w : World} (h1 : B1 < w.heap.size) (h2 : B2 < w.heap.size) (W : World) (l : Nat) (o o' : Obj) (hl : w.heap.size ≤ l) (_ : W.heap[l]? = some o) (_ : o.isCells = false) (_ : o.isWalk = false) : KeepAt B1 B2 W (W.putObj l o') :=
  ⟨World.putObj_heap_other (by omega), World.putObj_heap_other (by omega)⟩
theorem keepAt_refl (B1 B2 : Nat) (W : World) : KeepAt B1 B2 W W := ⟨rfl, rfl⟩
theorem KeepAt.cell2 {B1 B2 : Nat} {W W' : World} (h : KeepAt B1 B2 W W') (o : Nat) : W'.cell? ⟨B2, o, none⟩ = W.cell? ⟨B2, o, none⟩ := World.cell?_of_block (w := W) h.2

set_option maxRecDepth 100000 in
set_option maxHeartbeats 2000000 in
theorem values1_in (n : Nat) (l B1 B2 : Nat) (hs : List UInt8) (A : Option Addr) (kn kc : Nat) (hkn : hs.length = kn) (hsz : kn ≤ 140737488351232) (J Jx : List UInt8 → World → Prop)
    (hn : 1 ≤ n)
    (hY : ∀ pre x W, J pre W → pre.length < kn → YieldAt Fence.wide (n - 1) Try.prog l (encB x) W fun e W' =>
      (e = .returned (.bool true) ∧ J (pre ++ [x]) W' ∧ KeepAt B1 B2 W W') ∨ (e = .returned (.bool false) ∧ Jx (pre ++ [x]) W'))
    (W : World) (_ : ∀ pre W n, J pre W → J pre (W.drewN n)) (hc1 : W.cell? ⟨B1, 0, none⟩ = some (.slice A kn kc))
    (hrow : ∀ k (hk : k < hs.length), ∃ off, A = some ⟨B2, off, none⟩ ∧ W.cell? ⟨B2, off + k, none⟩ = some (.int .u8 (hs[k].toNat : Int))) (hcap : kn ≤ kc) (h0 : J [] W) :
    CallsIn Fence.wide n Try.prog 42 #[.func (.yield l) #[] #[], .pointer (some ⟨B1, 0, none⟩)] W fun e W' => (∃ v, e = .returned v) ∧
      ((∃ ys, ys = hs ∧ J ys W') ∨ (∃ pre, (∃ k, k ≤ kn ∧ pre = hs.take k) ∧ Jx pre W')) := by
  refine callsIn_of_wp Try.func42 rfl trivial ?_ rfl
  simp only [Try.ntmps42, List.size_toArray, List.length_cons, List.length_nil, Nat.reduceAdd, Nat.reduceSub, Array.replicate_succ, Array.replicate_zero, List.push_toArray, List.append_toArray, List.nil_append, List.cons_append]
  have Hl := hide hkn
  clear hkn
  gi_wp2
  gi_loopw [7] (fun i wr => ∃ k : Nat, k ≤ kn ∧ i = .int .i64 k ∧ J (hs.take k) wr ∧ KeepAt B1 B2 W wr)
    (fun i _ => kn - (intOf i).toNat)
  case atStart => exact ⟨0, Nat.zero_le _, rfl, h0, rfl, rfl⟩
  case round =>
    obtain ⟨k, hk', rfl, hJs, hnx⟩ := hrel
    by_cases hlt : k < kn
    · have hkl : k < hs.length := by rw [Hl.out]; exact hlt
      obtain ⟨off, rfl, hc2⟩ := hrow k hkl
      have hc2' : wr.cell? ⟨B2, off + k, none⟩ = some (.int .u8 (hs[k].toNat : Int)) := (hnx.cell2 _).trans hc2
      obtain ⟨fn, tmps, assign, body, hy, hR⟩ := hY _ hs[k] wr hJs (by rw [List.length_take]; omega)
      simp only [encB] at hy
      have htk : hs.take k ++ [hs[k]] = hs.take (k + 1) := by rw [List.take_add_one, List.getElem?_eq_getElem hkl]; rfl
      rw [htk] at hR
      clear hrow hc2
      gi_wp2
      refine hR.mono ?_
      rintro e W3 (⟨rfl, hJ3, hk3⟩ | ⟨rfl, hJx3⟩)
      · gi_wp2
        go_roundw
        case rel => exact ⟨k + 1, by omega, by simp, hJ3, keepAt_t hnx hk3⟩
        case measure => simp [intOf]; omega
      · gi_wp2
        refine bodyPost_ret (results_none rfl _ _ _) rfl ?_
        exact ⟨⟨_, rfl⟩, .inr ⟨_, ⟨k + 1, by omega, rfl⟩, hJx3⟩⟩
    · obtain rfl : k = kn := by omega
      gi_wp2
      go_end0
      exact ⟨⟨_, rfl⟩, .inl ⟨_, List.take_of_length_le (by rw [Hl.out]; exact Nat.le_refl _), hJs⟩⟩

theorem abides_drewN {β : Type} {B : Nat} {J : β → World → Prop} (h : AbidesFrom B J) (s : β) (W : World) (n : Nat) (hj : J s W) : J s (W.drewN n) :=
  h s W _ none hj ⟨rfl, rfl, rfl, Nat.le_refl _, fun _ _ _ => rfl⟩ (fun _ e => by cases e)

/-- **slices.Values(s) TELLS s's elements, in order; or the first k of them.** -/
theorem values_stops (n : Nat) (hn : 1 ≤ n) (B1 B2 : Nat) (hs : List UInt8) (A : Option Addr) (kn kc : Nat) (hkn : hs.length = kn) (hsz : kn ≤ 140737488351232) (hcap : kn ≤ kc) (w : World)
    (h1 : B1 < w.heap.size) (h2 : B2 < w.heap.size) (hc1 : w.cell? ⟨B1, 0, none⟩ = some (.slice A kn kc))
    (hrow : ∀ k (hk : k < hs.length), ∃ off, A = some ⟨B2, off, none⟩ ∧ w.cell? ⟨B2, off + k, none⟩ = some (.int .u8 (hs[k].toNat : Int))) :
    SeqStopsK Fence.wide n Try.prog 42 #[.pointer (some ⟨B1, 0, none⟩)] encB (KeepAt B1 B2)
      (fun ys => ys = hs) (fun pre => ∃ k, k ≤ kn ∧ pre = hs.take k) kn w := fun l J Jx W hW hJ _ hY h0 =>
  values1_in n l B1 B2 hs A kn kc hkn hsz J Jx hn hY W (fun pre W n hj => abides_drewN hJ pre W n hj)
    ((hW.cell (p := ⟨B1, 0, none⟩) h1).trans hc1) (fun k hk => by
      obtain ⟨off, e, hc⟩ := hrow k hk
      exact ⟨off, e, (hW.cell (p := ⟨B2, off + k, none⟩) h2).trans hc⟩) hcap h0

theorem valuesF_any (A : Option Addr) (kn kc : Nat) (w : World) :
    Calls Try.prog 30 #[.slice A kn kc] w fun e w' => e = .returned (.func (.func 42) #[] #[.pointer (some ⟨w.heap.size, 0, none⟩)]) ∧ w' = w.alloc (.cells #[.slice A kn kc] 22) := by
  go_enter Try.func30, Try.ntmps30
  go_wp2
  go_ret
  exact ⟨rfl, rfl⟩

end Go.Proofs.Ytdnhpmdmkdgmpaa
