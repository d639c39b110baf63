/-
  How a field is read, in plain Lean, and the walks of the thrower readField and of ReadField. Condition: the bytes read as such.
-/
import Derived.Test.YtdlbhppoknbnlaaShort
namespace Go.Proofs.Ytdlbhppoknbnlaa
open Go.RowKit

theorem rdU_lt (b : List UInt8) : ∀ (f i acc : Nat) (v m : Nat), f + i = 10 → acc < 2 ^ (7 * i) → rdU b f i acc = .ok (v, m) → v < 18446744073709551616
  | 0, i, acc, v, m, _, _, h => by simp [rdU] at h
  | f + 1, i, acc, v, m, hf, ha, h => by
    rw [rdU] at h
    split at h
    · simp at h
    · rename_i x hx
      have h63 : (2 : Nat) ^ 63 = 9223372036854775808 := by decide +kernel
      split at h
      · simp at h
      · rename_i h9
        split at h
        · split at h
          · simp at h
          · simp only [Except.ok.injEq, Prod.mk.injEq] at h
            obtain ⟨rfl, _⟩ := h
            by_cases hi : i = 9
            · subst hi
              have : x.toNat % 128 ≤ 1 := by omega
              rw [show 7 * 9 = 63 by omega, h63] at *
              omega
            · have h1 := step_lt acc i (x.toNat % 128) ha (Nat.mod_lt _ (by decide))
              have h2 : (2 : Nat) ^ (7 * (i + 1)) ≤ 2 ^ 63 := Nat.pow_le_pow_right (by omega) (by omega)
              omega
        · exact rdU_lt b f (i + 1) _ v m (by omega) (step_lt acc i _ ha (Nat.mod_lt _ (by decide))) h
theorem readU_lt {b : List UInt8} {v m : Nat} (h : readU b = .ok (v, m)) : v < 18446744073709551616 := rdU_lt b _ _ _ v m (by omega) (by omega) h

section
variable {P : Program}
theorem run_cut2 (t e : TypeId) (ht : P.underlying t = some (.slice e)) (hs : ∀ w : World, (sizeOf e).run P w = .ok 1 w) (A : Option Addr) (n c : Nat) (k k' : IntKind) (i j : Int) (h0 : 0 ≤ i) (h1 : i ≤ j) (h2 : j ≤ c) (w : World) :
    (Instr.slice t (.slice A n c) (some (.int k i)) (some (.int k' j)) none).run P w = .ok (.slice (cutA A i.toNat c) (j.toNat - i.toNat) (c - i.toNat)) w := by
  have hj := run_sliceBound (P := P) (w := w) k' j c .sliceAcap (by omega) h2
  have hi := run_sliceBound (P := P) (w := w) k i j.toNat .sliceB h0 (by omega)
  simp [Instr.slice, run_underlying ht, Instr.sliceBounds, hj, hi, hs, cutA, Result.andThen]
end

def readF (b : List UInt8) : Except Int (List UInt8 × Nat) :=
  match readU b with
  | .ok (n, k) => if 1048576 < n then .error 2 else if b.length - k < n then .error 20 else .ok ((b.drop k).take n, k + n)
  | .error c => .error c

theorem readF_err {b : List UInt8} {c : Int} (h : readF b = .error c) : c = 2 ∨ c = 20 ∨ c = 21 := by
  unfold readF at h
  split at h
  · split at h
    · simp at h; omega
    · split at h
      · simp at h; omega
      · simp at h
  · rename_i c' hc
    simp at h
    have := readU_err hc
    omega
theorem readF_len {b f : List UInt8} {k : Nat} (h : readF b = .ok (f, k)) : k ≤ b.length ∧ f.length ≤ 1048576 := by
  unfold readF at h
  split at h
  · rename_i n k' hu
    have := readU_len hu
    split at h
    · simp at h
    · split at h
      · simp at h
      · simp at h
        obtain ⟨rfl, rfl⟩ := h
        simp
        omega
  · simp at h

/-- what the thrower tells -/
def TellsF (w : World) (r : Except Int (List UInt8 × Nat)) (e : Ending) (w' : World) : Prop :=
  match r with
  | .ok (f, k) => ∃ v, e = .returned (.tuple #[v, .int .i64 (k : Int)]) ∧ Mine 5 w' w.heap.size v f ∧ Below w.heap.size w w'
  | .error c => e = .panicked (failure c) ∧ w = w'

set_option maxRecDepth 100000 in
set_option maxHeartbeats 1000000 in
theorem readField_any (b : List UInt8) (A : Option Addr) (n c B : Nat) (w : World) (h : Bs w B A n c b) (hB : B ≤ w.heap.size) : Calls Try.prog 54 #[.slice A n c] w (TellsF w (readF b)) := by
  have hr := h.reach
  have hcap := h.cap
  have hlen := h.len
  cases hu : readU b with
  | error c' =>
    have hF := hide (show readF b = .error c' by simp [readF, hu])
    go_enter Try.func54, Try.ntmps54
    go_wp2_with fail
    refine (readUint_any b A n c B w h).mono ?_
    rintro e w1 ⟨ht, rfl⟩
    rw [hu] at ht
    obtain rfl : e = .panicked (failure c') := ht
    refine ⟨rfl, ?_⟩
    rw [hF.out]
    exact ⟨rfl, rfl⟩
  | ok p =>
    obtain ⟨m, k⟩ := p
    have hk := readU_len hu
    have hm := readU_lt hu
    rw [hlen] at hk
    by_cases h1 : 1048576 < m
    · have hF := hide (show readF b = .error 2 by simp [readF, hu, h1])
      have h1' : ¬ (m : Int) ≤ 1048576 := by omega
      go_enter Try.func54, Try.ntmps54
      go_wp2_with fail
      refine (readUint_any b A n c B w h).mono ?_
      rintro e w1 ⟨ht, rfl⟩
      rw [hu] at ht
      obtain rfl : e = .returned (.tuple #[.int .u64 (m : Int), .int .i64 (k : Int)]) := ht
      go_wp2_with fail
      rw [decide_eq_false (show ¬ (m : Int) ≤ 1048576 by omega)]
      refine (must_false _ _).mono ?_
      rintro e w' ⟨rfl, rfl⟩
      refine ⟨rfl, ?_⟩
      rw [hF.out]
      exact ⟨rfl, rfl⟩
    · have h1' : (m : Int) ≤ 1048576 := by omega
      by_cases h2 : n - k < m
      · have hF := hide (show readF b = .error 20 by simp [readF, hu, hlen, h2]; omega)
        have h2' : ¬ (m : Int) ≤ (n : Int) - (k : Int) := by omega
        go_enter Try.func54, Try.ntmps54
        go_wp2_with fail
        refine (readUint_any b A n c B w h).mono ?_
        rintro e w1 ⟨ht, rfl⟩
        rw [hu] at ht
        obtain rfl : e = .returned (.tuple #[.int .u64 (m : Int), .int .i64 (k : Int)]) := ht
        go_wp2_with fail
        refine (must_true _ _).mono ?_
        rintro e w' ⟨rfl, rfl⟩
        go_wp2_with fail
        rw [decide_eq_false (show ¬ (m : Int) ≤ (n : Int) - (k : Int) by omega)]
        refine (must_false _ _).mono ?_
        rintro e w' ⟨rfl, rfl⟩
        refine ⟨rfl, ?_⟩
        rw [hF.out]
        exact ⟨rfl, rfl⟩
      · have hF := hide (show readF b = .ok ((b.drop k).take m, k + m) by simp [readF, hu, hlen, h2]; omega)
        have h2' : (m : Int) ≤ (n : Int) - (k : Int) := by omega
        have hcut := run_cut2 (P := Try.prog) 24 5 Try.underlying24 (fun w => by simp [go_sem]) A n c .i64 .i64 (k : Int) ((k : Int) + (m : Int)) (by omega) (by omega) (by omega)
        have e1 : ((k : Int) + (m : Int)).toNat - ((k : Int)).toNat = m := by omega
        rw [e1, Int.toNat_natCast] at hcut
        have hbs := (h.cut k).take (k := m) (by omega)
        clear hlen
        go_enter Try.func54, Try.ntmps54
        go_wp2_with fail
        refine (readUint_any b A n c B w h).mono ?_
        rintro e w1 ⟨ht, rfl⟩
        rw [hu] at ht
        obtain rfl : e = .returned (.tuple #[.int .u64 (m : Int), .int .i64 (k : Int)]) := ht
        go_wp2_with fail
        refine (must_true _ _).mono ?_
        rintro e w' ⟨rfl, rfl⟩
        go_wp2_with fail
        refine (must_true _ _).mono ?_
        rintro e w' ⟨rfl, rfl⟩
        go_wp2_with fail
        refine (clone_any _ _ m (c - k) B w hbs hB).mono ?_
        rintro e w1 ⟨v, rfl, hm1, hB1⟩
        go_wp2
        go_ret2
        rw [hF.out]
        exact ⟨v, by simp, hm1, hB1⟩

/-! ### ReadField -/
def VF (base : Nat) (b : List UInt8) (v : Value) (n : Int) (W : World) : Prop := ∃ f k, readF b = .ok (f, k) ∧ n = ((k : Nat) : Int) ∧ Mine 5 W base v f
def EF (b : List UInt8) (c : Int) : Prop := readF b = .error c

theorem mine_shape {e : TypeId} {W : World} {base : Nat} {v : Value} {f : List UInt8} (h : Mine e W base v f) : ∃ A m c, v = .slice A m c := by
  rcases h.2 with ⟨rfl, _⟩ | ⟨g, cap, cur, rfl, _⟩
  · exact ⟨_, _, _, rfl⟩
  · exact ⟨_, _, _, rfl⟩

theorem throwsF (base : Nat) (b : List UInt8) (A : Option Addr) (n c B H : Nat) (w : World) (h : Bs w B A n c b) (hB : B ≤ w.heap.size) (hb : base ≤ w.heap.size) (hc : w.cell? ⟨H, 0, none⟩ = some (.slice A n c)) :
    Calls Try.prog 53 #[.pointer (some ⟨H, 0, none⟩)] w (Throws w (VF base b) (EF b)) := by
  go_enter Try.func53, Try.ntmps53
  go_wp2_with fail
  refine (readField_any b A n c B w h hB).mono ?_
  rintro e w1 ht
  unfold TellsF at ht
  split at ht
  · rename_i f k hr
    obtain ⟨v, rfl, hm, hB1⟩ := ht
    go_wp2
    go_ret2
    exact ⟨hB1, .inl ⟨v, _, rfl, f, k, hr, rfl, hm.mono hb⟩⟩
  · rename_i c' hr
    obtain ⟨rfl, rfl⟩ := ht
    exact ⟨rfl, Below.refl _ _, .inr ⟨c', rfl, hr⟩⟩

/-- a reading call's answer -/
def AnsF (w : World) (r : Except Int (List UInt8 × Nat)) (e : Ending) (w' : World) : Prop :=
  match r with
  | .ok (f, k) => ∃ v, e = .returned (.tuple #[v, .int .i64 (k : Int), .int .i64 0]) ∧ Mine 5 w' w.heap.size v f
  | .error c => e = .returned (.tuple #[.slice none 0 0, .int .i64 0, .int .i64 c])

theorem readf_any (b : List UInt8) (A : Option Addr) (n c B : Nat) (w : World) (h : Bs w B A n c b) (hB : B ≤ w.heap.size) :
    Calls Try.prog 18 #[.slice A n c] w fun e w' => AnsF w (readF b) e w' ∧ Below w.heap.size w w' := by
  have hmf : ∀ (fn : Fn) (first cap : Array Value) (w : World), (Instr.makeFunc fn first cap).run Try.prog w = .ok (.func fn first cap) w := fun _ _ _ _ => rfl
  go_enter Try.func18, Try.ntmps18
  go_wp2_with fail
  have hb := Blk.new w 24 #[.slice A n c]
  have h1 := h.alloc hB (.cells #[.slice A n c] 24)
  have hB1 := (Below.refl _ w).alloc (Nat.le_refl _) (.cells #[.slice A n c] 24)
  have hs1 : w.heap.size + 1 = (w.alloc (.cells #[.slice A n c] 24)).heap.size := by simp
  generalize w.alloc (.cells #[.slice A n c] 24) = w1 at *
  refine (read_b 53 #[.pointer (some ⟨w.heap.size, 0, none⟩)] (VF (w1.heap.size + 1 + 1 + 1 + 1) b) (EF b) w1 (fun args w => by simp [callFunc, Try.func53, Try.f53, go_sem]) (fun c hc => by have := readF_err hc; omega)
    (fun w' hb' hsz => throwsF _ b A n c B w.heap.size w' (h1.below (hb'.mono (by omega))) (by omega) hsz ((hb.below hb' (by omega)).cell 0)) ⟨fun v n W p u _ hp ⟨f, k, e1, e2, hm⟩ => ⟨f, k, e1, e2, hm.setCell hp u⟩, fun v n W k ⟨f, k', e1, e2, hm⟩ => ⟨f, k', e1, e2, hm.drewN k⟩⟩ (fun v n W ⟨f, k, _, _, hm⟩ => mine_shape hm)).mono ?_
  rintro e w2 ⟨hB2, h2⟩
  have hBf := hB1.trans (hB2.mono (by omega))
  rcases h2 with ⟨v, m, rfl, f, k, hr, rfl, hm⟩ | ⟨c', hr, rfl⟩
  · go_wp2
    go_ret3
    exact ⟨by rw [hr]; exact ⟨v, rfl, hm.mono (by omega)⟩, hBf⟩
  · go_wp2
    go_ret3
    exact ⟨by rw [hr]; rfl, hBf⟩

end Go.Proofs.Ytdlbhppoknbnlaa
