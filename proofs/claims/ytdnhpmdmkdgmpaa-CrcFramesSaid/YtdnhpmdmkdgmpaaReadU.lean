/-
  The walk of codec.ReadUint. Condition: the bytes read as such.
-/
import Derived.Test.YtdnhpmdmkdgmpaaRd
namespace Go.Proofs.Ytdnhpmdmkdgmpaa
open Go.RowKit

theorem rdU_err (b : List UInt8) : ∀ (f i acc : Nat) (c : Int), rdU b f i acc = .error c → c = 20 ∨ c = 21
  | 0, i, acc, c, h => by simp [rdU] at h; omega
  | f + 1, i, acc, c, h => by
    rw [rdU] at h
    split at h
    · simp at h; omega
    · split at h
      · simp at h; omega
      · split at h
        · split at h
          · simp at h; omega
          · simp at h
        · exact rdU_err b f _ _ c h
theorem readU_err {b : List UInt8} {c : Int} (h : readU b = .error c) : c = 20 ∨ c = 21 := rdU_err b _ _ _ c h

/-- a reading call's answer -/
def AnsU (r : Except Int (Nat × Nat)) (e : Ending) : Prop :=
  match r with
  | .ok (v, n) => e = .returned (.tuple #[.int .u64 (v : Int), .int .i64 (n : Int), .int .i64 0])
  | .error c => e = .returned (.tuple #[.int .u64 0, .int .i64 0, .int .i64 c])

def VU (b : List UInt8) (v : Value) (n : Int) (_ : World) : Prop := ∃ x k : Nat, readU b = .ok (x, k) ∧ v = .int .u64 (x : Int) ∧ n = (k : Int)
def EU (b : List UInt8) (c : Int) : Prop := readU b = .error c

theorem throwsU (b : List UInt8) (A : Option Addr) (n c B H : Nat) (w : World) (h : Bs w B A n c b) (hc : w.cell? ⟨H, 0, none⟩ = some (.slice A n c)) :
    Calls Try.prog 38 #[.pointer (some ⟨H, 0, none⟩)] w (Throws w (VU b) (EU b)) := by
  go_enter Try.func38, Try.ntmps38
  go_wp2_with fail
  refine (readUint_any b A n c B w h).mono ?_
  rintro e w1 ⟨ht, rfl⟩
  unfold Tells at ht
  split at ht
  · rename_i v k hr
    subst ht
    go_wp2
    go_ret2
    exact ⟨Below.refl _ _, .inl ⟨_, _, rfl, v, k, hr, rfl, rfl⟩⟩
  · rename_i c' hr
    subst ht
    exact ⟨rfl, Below.refl _ _, .inr ⟨c', rfl, hr⟩⟩

theorem readu_any (b : List UInt8) (A : Option Addr) (n c B : Nat) (w : World) (h : Bs w B A n c b) (hB : B ≤ w.heap.size) :
    Calls Try.prog 26 #[.slice A n c] w fun e w' => AnsU (readU b) e ∧ Below w.heap.size w w' := by
  have hmf : ∀ (fn : Fn) (first cap : Array Value) (w : World), (Instr.makeFunc fn first cap).run Try.prog w = .ok (.func fn first cap) w := fun _ _ _ _ => rfl
  go_enter Try.func26, Try.ntmps26
  go_wp2_with fail
  have hb := Blk.new w 22 #[.slice A n c]
  have h1 := h.alloc hB (.cells #[.slice A n c] 22)
  have hB1 := (Below.refl _ w).alloc (Nat.le_refl _) (.cells #[.slice A n c] 22)
  have hs1 : w.heap.size + 1 = (w.alloc (.cells #[.slice A n c] 22)).heap.size := by simp
  generalize w.alloc (.cells #[.slice A n c] 22) = w1 at *
  refine (read_u 38 #[.pointer (some ⟨w.heap.size, 0, none⟩)] (VU b) (EU b) w1 (fun args w => by simp [callFunc, Try.func38, Try.f38, go_sem]) (fun c hc => by have := readU_err hc; omega)
    (fun w' hb' _ => throwsU b A n c B w.heap.size w' (h1.below (hb'.mono (by omega))) ((hb.below hb' (by omega)).cell 0)) ⟨fun _ _ _ _ _ _ _ h => h, fun _ _ _ _ h => h⟩ (fun v n W ⟨x, k, _, e, _⟩ => ⟨_, e⟩)).mono ?_
  rintro e w2 ⟨hB2, h2⟩
  have hBf := hB1.trans (hB2.mono (by omega))
  rcases h2 with ⟨v, m, rfl, x, k, hr, rfl, rfl⟩ | ⟨c', hr, rfl⟩
  · go_wp2
    go_ret3
    exact ⟨by rw [hr]; rfl, hBf⟩
  · go_wp2
    go_ret3
    exact ⟨by rw [hr]; rfl, hBf⟩

end Go.Proofs.Ytdnhpmdmkdgmpaa
