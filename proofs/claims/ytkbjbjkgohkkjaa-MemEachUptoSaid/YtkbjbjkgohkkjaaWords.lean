/-
  Words and small lemmas of this proof: a slice whose cells read as a list of values; blocks that are known whole. They speak of no program. No condition.
-/
import Derived.Below
import Derived.Laws.OwnMore
import Derived.Deep.AppendLies
import Derived.Deep.Draws
import Derived.Laws.Rows
import Derived.WalkKit
namespace Go.Proofs.Ytkbjbjkgohkkjaa
open Go.RowKit

theorem hide {p : Prop} (h : p) : Hid p := h

/-- the value of a byte's cell -/
def b8 (b : UInt8) : Value := .int .u8 (b.toNat : Int)
theorem b8_one (b : UInt8) : (b8 b).oneCell' = true := rfl
theorem u8_lt (b : UInt8) : b.toNat < 256 := b.toNat_lt

/-- where 'x[k:]' begins, one cell an element -/
def cutA (A : Option Addr) (k cap : Nat) : Option Addr := if cap = k then A else A.map (·.add k)

/-- The slice address A holds the cells xs, in a block below B (asked only where there is a cell). -/
def Row (w : World) (B : Nat) (A : Option Addr) (xs : List Value) : Prop :=
  xs ≠ [] → ∃ b off, A = some ⟨b, off, none⟩ ∧ b < B ∧ ∀ j u, xs[j]? = some u → w.cell? ⟨b, off + j, none⟩ = some u

section
variable {w w' : World} {B B' : Nat} {A : Option Addr} {xs : List Value}
theorem Row.nil : Row w B A [] := fun h => absurd rfl h
theorem Row.at_ (h : Row w B A xs) (hk : 0 < xs.length) : ∃ b off, A = some ⟨b, off, none⟩ ∧ b < B ∧ ∀ j (hj : j < xs.length), w.cell? ⟨b, off + j, none⟩ = some xs[j] := by
  obtain ⟨b, off, e, hb, hc⟩ := h (by intro e; subst e; simp at hk)
  exact ⟨b, off, e, hb, fun j hj => hc j _ (List.getElem?_eq_getElem hj)⟩
theorem Row.keep (h : Row w B A xs) (hk : ∀ p : Addr, p.block < B → w'.cell? p = w.cell? p) : Row w' B A xs := fun hn => by
  obtain ⟨b, off, e, hb, hc⟩ := h hn
  exact ⟨b, off, e, hb, fun j u hu => (hk _ hb).trans (hc j u hu)⟩
theorem Row.more (h : Row w B A xs) (hB : B ≤ B') : Row w B' A xs := fun hn => by
  obtain ⟨b, off, e, hb, hc⟩ := h hn
  exact ⟨b, off, e, by omega, hc⟩
theorem Row.below (h : Row w B A xs) (hb : Below B w w') : Row w' B A xs := h.keep fun _ hp => hb.cell hp
theorem Row.drewN (h : Row w B A xs) (k : Nat) : Row (w.drewN k) B A xs := h
theorem Row.alloc (h : Row w B A xs) (hB : B ≤ w.heap.size) (o : Obj) : Row (w.alloc o) B A xs := h.keep fun p hp => World.cell?_alloc_lt w o p (by omega)
theorem Row.setCell (h : Row w B A xs) {p : Addr} (hB : B ≤ p.block) (u : Value) : Row (w.setCell p u) B A xs :=
  h.keep fun q hq => World.cell?_setCell_other w p q u (fun e => by subst e; omega)
theorem Row.cut (h : Row w B A xs) (k : Nat) {cap : Nat} (hc : xs.length ≤ cap) : Row w B (cutA A k cap) (xs.drop k) := fun hn => by
  have hk : k < xs.length := by
    rcases Nat.lt_or_ge k xs.length with h' | h'
    · exact h'
    · exact absurd (List.drop_eq_nil_of_le h') hn
  obtain ⟨b, off, rfl, hb, hcell⟩ := h (by intro e; subst e; simp at hk)
  unfold cutA
  rw [if_neg (by omega)]
  refine ⟨b, off + k, by simp only [Option.map_some, Addr.add_lit], hb, fun j u hu => ?_⟩
  rw [Nat.add_assoc]
  exact hcell _ u (by rw [← hu, List.getElem?_drop])
theorem Row.take (h : Row w B A xs) (k : Nat) : Row w B A (xs.take k) := fun hn => by
  obtain ⟨b, off, e, hb, hc⟩ := h (by intro e; subst e; simp at hn)
  refine ⟨b, off, e, hb, fun j u hu => hc j u ?_⟩
  rw [List.getElem?_take] at hu
  split at hu
  · exact hu
  · cases hu
theorem Row.of_own {base : Nat} {e : TypeId} {n c : Nat} (h : w.ownsRow base e 1 (.slice A n c) n xs) : Row w w.heap.size A xs := fun hn => by
  have hl := h.1
  have hpos : 0 < n := by
    rcases Nat.eq_zero_or_pos n with h0 | h0
    · subst h0; exact absurd (List.eq_nil_of_length_eq_zero (by simpa using hl)) hn
    · exact h0
  obtain ⟨g, cap, hv, _, hlt⟩ := h.form hpos
  have hA : A = some ⟨g, 0, none⟩ := by injection hv
  subst hA
  refine ⟨g, 0, rfl, hlt, fun j u hu => ?_⟩
  have := h.cells (g := g) rfl j u hu
  simpa [Addr.add_lit] using this
end

/-- The slice value '.slice A n c' reads as the cells xs (one cell an element), in a block below B. -/
structure Sl (w : World) (B : Nat) (A : Option Addr) (n c : Nat) (xs : List Value) : Prop where
  len : xs.length = n
  cap : n ≤ c
  reach : n ≤ 140737488351232
  row : Row w B A xs

section
variable {w w' : World} {B B' : Nat} {A : Option Addr} {n c : Nat} {xs : List Value}
theorem Sl.nil (w : World) (B : Nat) (A : Option Addr) (c : Nat) : Sl w B A 0 c [] := ⟨rfl, Nat.zero_le _, Nat.zero_le _, Row.nil⟩
theorem Sl.more (h : Sl w B A n c xs) (hB : B ≤ B') : Sl w B' A n c xs := ⟨h.len, h.cap, h.reach, h.row.more hB⟩
theorem Sl.below (h : Sl w B A n c xs) (hb : Below B w w') : Sl w' B A n c xs := ⟨h.len, h.cap, h.reach, h.row.below hb⟩
theorem Sl.drewN (h : Sl w B A n c xs) (k : Nat) : Sl (w.drewN k) B A n c xs := ⟨h.len, h.cap, h.reach, h.row⟩
theorem Sl.alloc (h : Sl w B A n c xs) (hB : B ≤ w.heap.size) (o : Obj) : Sl (w.alloc o) B A n c xs := ⟨h.len, h.cap, h.reach, h.row.alloc hB o⟩
theorem Sl.setCell (h : Sl w B A n c xs) {p : Addr} (hB : B ≤ p.block) (u : Value) : Sl (w.setCell p u) B A n c xs := ⟨h.len, h.cap, h.reach, h.row.setCell hB u⟩
theorem Sl.cut (h : Sl w B A n c xs) (k : Nat) : Sl w B (cutA A k c) (n - k) (c - k) (xs.drop k) :=
  ⟨by rw [List.length_drop, h.len], by have := h.cap; omega, by have := h.reach; omega, h.row.cut k (by rw [h.len]; exact h.cap)⟩
theorem Sl.take (h : Sl w B A n c xs) {k : Nat} (hk : k ≤ n) : Sl w B A k c (xs.take k) :=
  ⟨by rw [List.length_take, h.len]; omega, by have := h.cap; omega, by have := h.reach; omega, h.row.take k⟩
theorem Sl.at_ (h : Sl w B A n c xs) (hk : 0 < n) : ∃ b off, A = some ⟨b, off, none⟩ ∧ b < B ∧ ∀ j (hj : j < xs.length), w.cell? ⟨b, off + j, none⟩ = some xs[j] :=
  h.row.at_ (by rw [h.len]; exact hk)
end

/-- .. as bytes -/
def Bs (w : World) (B : Nat) (A : Option Addr) (n c : Nat) (ks : List UInt8) : Prop := Sl w B A n c (ks.map b8)
section
variable {w w' : World} {B B' : Nat} {A : Option Addr} {n c : Nat} {ks : List UInt8}
theorem Bs.len (h : Bs w B A n c ks) : ks.length = n := by simpa using Sl.len h
theorem Bs.cap (h : Bs w B A n c ks) : n ≤ c := Sl.cap h
theorem Bs.reach (h : Bs w B A n c ks) : n ≤ 140737488351232 := Sl.reach h
theorem Bs.nil (w : World) (B : Nat) (A : Option Addr) (c : Nat) : Bs w B A 0 c [] := Sl.nil w B A c
theorem Bs.more (h : Bs w B A n c ks) (hB : B ≤ B') : Bs w B' A n c ks := Sl.more h hB
theorem Bs.below (h : Bs w B A n c ks) (hb : Below B w w') : Bs w' B A n c ks := Sl.below h hb
theorem Bs.drewN (h : Bs w B A n c ks) (k : Nat) : Bs (w.drewN k) B A n c ks := Sl.drewN h k
theorem Bs.alloc (h : Bs w B A n c ks) (hB : B ≤ w.heap.size) (o : Obj) : Bs (w.alloc o) B A n c ks := Sl.alloc h hB o
theorem Bs.setCell (h : Bs w B A n c ks) {p : Addr} (hB : B ≤ p.block) (u : Value) : Bs (w.setCell p u) B A n c ks := Sl.setCell h hB u
theorem Bs.cut (h : Bs w B A n c ks) (k : Nat) : Bs w B (cutA A k c) (n - k) (c - k) (ks.drop k) := by
  have := Sl.cut h k
  rw [← List.map_drop] at this
  exact this
theorem Bs.take (h : Bs w B A n c ks) {k : Nat} (hk : k ≤ n) : Bs w B A k c (ks.take k) := by
  have := Sl.take h hk
  rw [← List.map_take] at this
  exact this
theorem Bs.at_ (h : Bs w B A n c ks) (hk : 0 < n) : ∃ b off, A = some ⟨b, off, none⟩ ∧ b < B ∧ ∀ j (hj : j < ks.length), w.cell? ⟨b, off + j, none⟩ = some (.int .u8 (ks[j].toNat : Int)) := by
  obtain ⟨b, off, e, hb, hc⟩ := Sl.at_ h hk
  refine ⟨b, off, e, hb, fun j hj => ?_⟩
  rw [hc j (by simpa using hj)]
  simp [b8]
end

/-- the length in a slice value, for a loop's measure -/
def lenOf : Value → Nat | .slice _ n _ => n | _ => 0

section
variable {P : Program}
theorem run_cut (t e : TypeId) (ht : P.underlying t = some (.slice e)) (hs : ∀ w : World, (sizeOf e).run P w = .ok 1 w) (A : Option Addr) (n c : Nat) (k : IntKind) (i : Int) (h0 : 0 ≤ i) (h1 : i ≤ n) (w : World) :
    (Instr.slice t (.slice A n c) (some (.int k i)) none none).run P w = .ok (.slice (cutA A i.toNat c) (n - i.toNat) (c - i.toNat)) w := by
  simp [Instr.slice, run_underlying ht, Instr.sliceBounds, run_sliceBound, h0, h1, hs, cutA, Result.andThen]
end

end Go.Proofs.Ytkbjbjkgohkkjaa
