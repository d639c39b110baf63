/-
  A slice of slices of bytes; the walk of few: it answers something and only reads. Condition: the slice reads as such.
-/
import Derived.Test.YtkkjfehnkhhafaaMarks
import Derived.Test.YtkkjfehnkhhafaaProg
import Derived.WalkSpells
import Derived.WalkLawsBesides
namespace Go.Proofs.Ytkkjfehnkhhafaa
open Go.RowKit

def sv (h : Option Addr × Nat × Nat) : Value := .slice h.1 h.2.1 h.2.2
/-- the slice value '.slice A n c' reads as these lists of bytes -/
def Bss (w : World) (B : Nat) (A : Option Addr) (n c : Nat) (kss : List (List UInt8)) : Prop :=
  ∃ hs : List (Option Addr × Nat × Nat), Sl w B A n c (hs.map sv) ∧ hs.length = kss.length ∧ ∀ (i : Nat) (h : Option Addr × Nat × Nat) (ks : List UInt8), hs[i]? = some h → kss[i]? = some ks → Bs w B h.1 h.2.1 h.2.2 ks
section
variable {w w' : World} {B B' : Nat} {A : Option Addr} {n c : Nat} {kss : List (List UInt8)}
theorem Bss.len (h : Bss w B A n c kss) : kss.length = n := by
  obtain ⟨hs, hsl, hl, _⟩ := h
  have := hsl.len
  rw [List.length_map] at this
  omega
theorem Bss.cap (h : Bss w B A n c kss) : n ≤ c := by obtain ⟨hs, hsl, _⟩ := h; exact hsl.cap
theorem Bss.nil (w : World) (B : Nat) (A : Option Addr) (c : Nat) : Bss w B A 0 c [] := ⟨[], Sl.nil _ _ _ _, rfl, fun i h ks e => by simp at e⟩
theorem Bss.more (h : Bss w B A n c kss) (hB : B ≤ B') : Bss w B' A n c kss := by
  obtain ⟨hs, hsl, hl, hr⟩ := h
  exact ⟨hs, hsl.more hB, hl, fun i h ks e1 e2 => (hr i h ks e1 e2).more hB⟩
theorem Bss.below (h : Bss w B A n c kss) (hb : Below B w w') : Bss w' B A n c kss := by
  obtain ⟨hs, hsl, hl, hr⟩ := h
  exact ⟨hs, hsl.below hb, hl, fun i h ks e1 e2 => (hr i h ks e1 e2).below hb⟩
theorem Bss.at_ (h : Bss w B A n c kss) (hk : 0 < n) : ∃ b off, A = some ⟨b, off, none⟩ ∧ b < B ∧ ∀ i (hi : i < kss.length), ∃ Ai ni ci, w.cell? ⟨b, off + i, none⟩ = some (.slice Ai ni ci) ∧ Bs w B Ai ni ci kss[i] := by
  obtain ⟨hs, hsl, hl, hr⟩ := h
  obtain ⟨b, off, e, hb, hc⟩ := hsl.at_ hk
  refine ⟨b, off, e, hb, fun i hi => ?_⟩
  have hi' : i < hs.length := by omega
  refine ⟨hs[i].1, hs[i].2.1, hs[i].2.2, ?_, hr i _ _ (List.getElem?_eq_getElem hi') (List.getElem?_eq_getElem hi)⟩
  rw [hc i (by simpa using hi')]
  simp [sv]
end

/-- it answers some bool, and the world is as it was -/
def SomeBool (w : World) (e : Ending) (w' : World) : Prop := ∃ bv, e = .returned (.bool bv) ∧ w' = w
set_option maxRecDepth 100000 in
set_option maxHeartbeats 400000 in
theorem few_any (kss : List (List UInt8)) (A : Option Addr) (n c B : Nat) (w : World) (hn : n ≤ 5864062014634) (h : Bss w B A n c kss) :
    Calls Try.prog 8 #[.slice A n c] w (SomeBool w) := by
  have hlen := hide h.len
  go_enter Try.func8, Try.ntmps8
  go_wp2
  go_loop [3, 10] (fun z i => ∃ (k : Nat) (s : Int), k ≤ n ∧ i = .int .i64 k ∧ z = .int .i64 s) (fun _ i => n - (intOf i).toNat)
  case atStart => exact ⟨0, _, Nat.zero_le _, rfl, rfl⟩
  case round =>
    obtain ⟨k, s, hk, rfl, rfl⟩ := hrel
    by_cases hlt : k < n
    · obtain ⟨b, off, rfl, hb, hc⟩ := h.at_ (by omega)
      obtain ⟨Ai, ni, ci, hci, _⟩ := hc k (by rw [hlen.out]; exact hlt)
      clear hc
      go_wp2
      go_round
      case rel => exact ⟨k + 1, _, by omega, by simp, rfl⟩
      case measure => simp [intOf]; omega
    · obtain rfl : k = n := by omega
      go_wp2
      go_ret
      exact ⟨_, rfl, rfl⟩

end Go.Proofs.Ytkkjfehnkhhafaa
