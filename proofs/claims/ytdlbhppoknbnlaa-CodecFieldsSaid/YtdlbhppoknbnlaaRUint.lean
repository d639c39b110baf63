/-
  The walk of the reader's Uint. Condition: the reader's bytes read as such, in a block below the reader's.
-/
import Derived.Test.YtdlbhppoknbnlaaOn
namespace Go.Proofs.Ytdlbhppoknbnlaa
open Go.RowKit

theorem rdU_len (b : List UInt8) : ∀ (f i acc : Nat) (v m : Nat), rdU b f i acc = .ok (v, m) → m ≤ b.length
  | 0, i, acc, v, m, h => by simp [rdU] at h
  | f + 1, i, acc, v, m, h => by
    rw [rdU] at h
    split at h
    · simp at h
    · rename_i x hx
      have hi : i < b.length := (List.getElem?_eq_some_iff.1 hx).1
      split at h
      · simp at h
      · split at h
        · split at h
          · simp at h
          · simp at h; omega
        · exact rdU_len b f _ _ v m h
theorem readU_len {b : List UInt8} {v m : Nat} (h : readU b = .ok (v, m)) : m ≤ b.length := rdU_len b _ _ _ v m h

/-- reading on: the value, where it stands, the error -/
def nxtU (ks : List UInt8) (k : Nat) (er : Int) : Nat × Nat × Int :=
  if er ≠ 0 then (0, k, er) else match readU (ks.drop k) with
    | .ok (v, m) => (v, k + m, 0)
    | .error c => (0, k, c)

/-- the reader behind a call -/
def Went (w : World) (R : Nat) (A : Option Addr) (n c : Nat) (V : Value → World → Prop) (k' : Nat) (er' : Int) (e : Ending) (w' : World) : Prop :=
  w.grownBy w' (some R) ∧ Rdr w' R A n c (k' : Int) er' ∧ ∃ v, e = .returned v ∧ V v w'

theorem ruint_any (R n c k : Nat) (er : Int) (A : Option Addr) (ks : List UInt8) (w : World) (hr : Rdr w R A n c (k : Int) er) (hb : Bs w R A n c ks) (hk : k ≤ n) :
    Calls Try.prog 23 #[.pointer (some ⟨R, 0, none⟩)] w (Went w R A n c (fun v _ => v = .int .u64 ((nxtU ks k er).1 : Int)) (nxtU ks k er).2.1 (nxtU ks k er).2.2) := by
  have hcf : ∀ (args : Array Value) (w : World), (callFunc 48 args).run Try.prog w = .ok (.enter 48 args) w := fun args w => by simp [callFunc, Try.func48, Try.f48, go_sem]
  have hreach := hb.reach
  have hlen := hb.len
  have hRl := hr.lt
  have hread : ∀ w', Below w.heap.size w w' → Calls Try.prog 48 (#[.slice (cutA A k c) (n - k) (c - k)] ++ #[]) w' fun e w'' => Tells (readU (ks.drop k)) e ∧ w' = w'' := fun w' h =>
    readUint_any (ks.drop k) _ _ _ R w' ((hb.below (h.mono (by omega))).cut k)
  go_enter Try.func23, Try.ntmps23
  go_wp2_with fail
  by_cases h0 : er = 0
  · subst h0
    cases hu : readU (ks.drop k) with
    | ok p =>
      obtain ⟨v, m⟩ := p
      have hm := readU_len hu
      rw [List.length_drop, hlen] at hm
      have en : nxtU ks k 0 = (v, k + m, 0) := by simp [nxtU, hu]
      refine (on_ok_u 48 #[] R n c k m A (fun x _ => x = .int .u64 (v : Int)) w hcf hk (by omega) (fun w' h _ => (hread w' h).mono ?_) ⟨fun _ _ _ _ _ _ h => h, fun _ _ _ h => h⟩ (fun _ _ _ _ h => h) (fun _ _ h => ⟨_, h⟩) hr).mono ?_
      · rintro e w'' ⟨ht, rfl⟩
        rw [hu] at ht
        exact ⟨Below.refl _ _, _, ht, rfl⟩
      · rintro e w' ⟨hg, hr', x, rfl, rfl⟩
        go_wp2
        go_ret
        rw [en]
        exact ⟨hg, by simpa using hr', _, rfl, rfl⟩
    | error er' =>
      have her := readU_err hu
      have en : nxtU ks k 0 = (0, k, er') := by simp [nxtU, hu]
      refine (on_err_u 48 #[] R n c k er' A w hcf hk (by omega) (fun w' h => (hread w' h).mono ?_) hr).mono ?_
      · rintro e w'' ⟨ht, rfl⟩
        rw [hu] at ht
        exact ⟨Below.refl _ _, ht⟩
      · rintro e w' ⟨hg, hr', rfl⟩
        go_wp2
        go_ret
        rw [en]
        exact ⟨hg, hr', _, rfl, rfl⟩
  · have en : nxtU ks k er = (0, k, er) := by simp [nxtU, h0]
    refine (on_had_u _ R n c k er A w ⟨48, #[], rfl⟩ h0 hr).mono ?_
    rintro e w' ⟨hg, hr', rfl⟩
    go_wp2
    go_ret
    rw [en]
    exact ⟨hg, hr', _, rfl, rfl⟩

end Go.Proofs.Ytdlbhppoknbnlaa
