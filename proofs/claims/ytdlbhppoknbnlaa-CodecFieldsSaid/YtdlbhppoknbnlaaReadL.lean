/-
  How a list of fields is read, in plain Lean, and the walks of the thrower readFields and of ReadFields. Condition: the bytes read as such.
-/
import Derived.Test.YtdlbhppoknbnlaaReadF
import Derived.Test.YtdlbhppoknbnlaaLists
namespace Go.Proofs.Ytdlbhppoknbnlaa
open Go.RowKit

def rdL (b : List UInt8) : Nat → Nat → List (List UInt8) → Except Int (List (List UInt8) × Nat)
  | 0, k, acc => .ok (acc, k)
  | n + 1, k, acc => match readF (b.drop k) with
    | .ok (f, m) => rdL b n (k + m) (acc ++ [f])
    | .error c => .error c
def readL (b : List UInt8) : Except Int (List (List UInt8) × Nat) :=
  match readU b with
  | .ok (n, k) => if 65536 < n then .error 2 else rdL b n k []
  | .error c => .error c

theorem rdL_err (b : List UInt8) : ∀ (n k : Nat) (acc : List (List UInt8)) (c : Int), rdL b n k acc = .error c → c = 2 ∨ c = 20 ∨ c = 21
  | 0, k, acc, c, h => by simp [rdL] at h
  | n + 1, k, acc, c, h => by
    rw [rdL] at h
    split at h
    · exact rdL_err b n _ _ c h
    · rename_i c' hc
      simp at h
      have := readF_err hc
      omega
theorem readL_err {b : List UInt8} {c : Int} (h : readL b = .error c) : c = 2 ∨ c = 20 ∨ c = 21 := by
  unfold readL at h
  split at h
  · split at h
    · simp at h; omega
    · exact rdL_err b _ _ _ c h
  · rename_i c' hc
    simp at h
    have := readU_err hc
    omega
theorem rdL_len (b : List UInt8) : ∀ (n k : Nat) (acc : List (List UInt8)) (fs : List (List UInt8)) (k' : Nat), k ≤ b.length → (∀ f ∈ acc, f.length ≤ 1048576) → rdL b n k acc = .ok (fs, k') → k' ≤ b.length ∧ fs.length = acc.length + n ∧ ∀ f ∈ fs, f.length ≤ 1048576
  | 0, k, acc, fs, k', hk, ha, h => by
    simp [rdL] at h
    obtain ⟨rfl, rfl⟩ := h
    exact ⟨hk, rfl, ha⟩
  | n + 1, k, acc, fs, k', hk, ha, h => by
    rw [rdL] at h
    split at h
    · rename_i f m hf
      have hl := readF_len hf
      rw [List.length_drop] at hl
      have := rdL_len b n (k + m) (acc ++ [f]) fs k' (by omega) (fun x hx => (List.mem_append.1 hx).elim (ha x) (fun e => by simp at e; subst e; exact hl.2)) h
      rw [List.length_append, List.length_singleton] at this
      exact ⟨this.1, by omega, this.2.2⟩
    · simp at h
theorem readL_len {b : List UInt8} {fs : List (List UInt8)} {k : Nat} (h : readL b = .ok (fs, k)) : k ≤ b.length ∧ fs.length ≤ 65536 ∧ ∀ f ∈ fs, f.length ≤ 1048576 := by
  unfold readL at h
  split at h
  · rename_i n k' hu
    split at h
    · simp at h
    · have := rdL_len b n k' [] fs k (readU_len hu) (by simp) h
      simp at this
      exact ⟨this.1, by omega, this.2.2⟩
  · simp at h

/-- what the thrower tells -/
def TellsL (w : World) (r : Except Int (List (List UInt8) × Nat)) (e : Ending) (w' : World) : Prop :=
  Below w.heap.size w w' ∧ match r with
  | .ok (fs, k) => ∃ v, e = .returned (.tuple #[v, .int .i64 (k : Int)]) ∧ MineL 24 5 w' w.heap.size v fs
  | .error c => e = .panicked (failure c)

set_option maxRecDepth 100000 in
set_option maxHeartbeats 2000000 in
theorem readFields_any (b : List UInt8) (A : Option Addr) (n c B : Nat) (w : World) (h : Bs w B A n c b) (hB : B ≤ w.heap.size) : Calls Try.prog 57 #[.slice A n c] w (TellsL w (readL b)) := by
  have hr := h.reach
  have hcap := h.cap
  have hlen := h.len
  cases hu : readU b with
  | error c' =>
    have hF := hide (show readL b = .error c' by simp [readL, hu])
    go_enter Try.func57, Try.ntmps57
    go_wp2_with fail
    refine (readUint_any b A n c B w h).mono ?_
    rintro e w1 ⟨ht, rfl⟩
    rw [hu] at ht
    obtain rfl : e = .panicked (failure c') := ht
    refine ⟨rfl, Below.refl _ _, ?_⟩
    rw [hF.out]
  | ok p =>
    obtain ⟨m, k0⟩ := p
    have hk := readU_len hu
    rw [hlen] at hk
    by_cases h1 : 65536 < m
    · have hF := hide (show readL b = .error 2 by simp [readL, hu, h1])
      have h1' : ¬ (m : Int) ≤ 65536 := by omega
      go_enter Try.func57, Try.ntmps57
      go_wp2_with fail
      refine (readUint_any b A n c B w h).mono ?_
      rintro e w1 ⟨ht, rfl⟩
      rw [hu] at ht
      obtain rfl : e = .returned (.tuple #[.int .u64 (m : Int), .int .i64 (k0 : Int)]) := ht
      go_wp2_with fail
      rw [decide_eq_false (show ¬ (m : Int) ≤ 65536 by omega)]
      refine (must_false _ _).mono ?_
      rintro e w' ⟨rfl, rfl⟩
      refine ⟨rfl, Below.refl _ _, ?_⟩
      rw [hF.out]
    · have h1' : (m : Int) ≤ 65536 := by omega
      have hF := hide (show readL b = rdL b m k0 [] by simp [readL, hu]; omega)
      have hlen' := hide hlen
      clear hlen
      go_enter Try.func57, Try.ntmps57
      go_wp2_with fail
      refine (readUint_any b A n c B w h).mono ?_
      rintro e w1 ⟨ht, rfl⟩
      rw [hu] at ht
      obtain rfl : e = .returned (.tuple #[.int .u64 (m : Int), .int .i64 (k0 : Int)]) := ht
      go_wp2_with fail
      refine (must_true _ _).mono ?_
      rintro e w' ⟨rfl, rfl⟩
      go_wp2
      go_loopw [5, 6, 18] (fun t5 t6 t18 wq => ∃ (i k : Nat) (acc : List (List UInt8)), i ≤ m ∧ t18 = .int .u64 (i : Int) ∧ t5 = .int .i64 (k : Int) ∧ k ≤ n ∧ acc.length = i ∧ (∀ f ∈ acc, f.length ≤ 1048576) ∧ MineL 24 5 wq w.heap.size t6 acc ∧ Below w.heap.size w wq ∧ rdL b (m - i) k acc = readL b) (fun _ _ t18 _ => m - (intOf t18).toNat)
      case atStart => exact ⟨0, k0, [], by omega, rfl, rfl, hk, rfl, by simp, MineL.nil _ _ _ _, Below.refl _ _, hF.out.symm⟩
      case round =>
        obtain ⟨i, k, acc, hi, rfl, rfl, hkn, hal, haf, hm, hBw, he⟩ := hrel
        have hs := hBw.size
        have hal' := hide hal
        clear hal
        by_cases him : i < m
        · have he2 : rdL b (m - i) k acc = rdL b ((m - (i + 1)) + 1) k acc := by rw [show m - i = (m - (i + 1)) + 1 by omega]
          rw [he2, rdL] at he
          clear he2
          have hcut := run_cut (P := Try.prog) 24 5 Try.underlying24 (fun w => by simp [go_sem]) A n c .i64 (k : Int) (by omega) (by omega)
          simp only [Int.toNat_natCast] at hcut
          have hcall := hide (readField_any (b.drop k) _ _ _ B wr ((h.below (hBw.mono hB)).cut k) (by omega))
          cases hf : readF (b.drop k) with
          | error c' =>
            rw [hf] at he
            have He := hide he
            clear he
            go_wp2_with fail
            refine (hcall.out).mono ?_
            rintro e w1 ht
            rw [hf] at ht
            obtain ⟨rfl, rfl⟩ := ht
            refine ⟨rfl, hBw, ?_⟩
            rw [← He.out]
          | ok p =>
            obtain ⟨f, k'⟩ := p
            rw [hf] at he
            have hfl := readF_len hf
            rw [List.length_drop, hlen'.out] at hfl
            have He := hide he
            clear he
            go_wp2_with fail
            refine (hcall.out).mono ?_
            rintro e w1 ht
            rw [hf] at ht
            obtain ⟨fv, rfl, hmf, hB1⟩ := ht
            have hs1 := hB1.size
            obtain ⟨fA, fm, fc, rfl⟩ := mine_shape hmf
            have hm1 := (hm.below hB1 (Nat.le_refl _)).alloc (.cells #[.slice fA fm fc] 24)
            have hmf1 := (hmf.mono hs).alloc (.cells #[.slice fA fm fc] 24)
            obtain ⟨v', w3, hrun, hm3, hg3⟩ := append_list (P := Try.prog) 41 Try.underlying41 info24 (by decide) hm1 (by simp; omega) (h0 := (fA, fm, fc)) hmf1 ((Blk.new w1 24 #[.slice fA fm fc]).cell 0) (by rw [hal'.out]; omega)
            have hB3 : Below w.heap.size w w3 := ((hBw.trans (hB1.mono hs)).alloc (by omega) _).trans (hm1.grown hg3 (Nat.le_refl _) (by simp; omega))
            clear hm hm1 hmf hmf1 hg3 hB1 hcall hcut
            go_wp2_with (at_builtin; refine wpList_append_run rfl _ _ 41 rfl _ _ _ rfl rfl hrun ?_)
            go_roundw
            case rel => exact ⟨i + 1, k + k', acc ++ [f], by omega, by simp, by simp, by omega, by rw [List.length_append, hal'.out]; rfl, fun x hx => (List.mem_append.1 hx).elim (haf x) (fun e => by simp at e; subst e; exact hfl.2), hm3, hB3, He.out⟩
            case measure => simp [intOf]; omega
        · obtain rfl : i = m := by omega
          rw [Nat.sub_self, rdL] at he
          have He := hide he
          clear he
          go_wp2
          go_ret2
          refine ⟨hBw, ?_⟩
          rw [← He.out]
          exact ⟨_, rfl, hm⟩

/-! ### ReadFields -/
def VL (base : Nat) (b : List UInt8) (v : Value) (n : Int) (W : World) : Prop := ∃ fs k, readL b = .ok (fs, k) ∧ n = ((k : Nat) : Int) ∧ MineL 24 5 W base v fs
def EL (b : List UInt8) (c : Int) : Prop := readL b = .error c

theorem throwsL (base : Nat) (b : List UInt8) (A : Option Addr) (n c B H : Nat) (w : World) (h : Bs w B A n c b) (hB : B ≤ w.heap.size) (hb : base ≤ w.heap.size) (hc : w.cell? ⟨H, 0, none⟩ = some (.slice A n c)) :
    Calls Try.prog 56 #[.pointer (some ⟨H, 0, none⟩)] w (Throws w (VL base b) (EL b)) := by
  go_enter Try.func56, Try.ntmps56
  go_wp2_with fail
  refine (readFields_any b A n c B w h hB).mono ?_
  rintro e w1 ⟨hB1, ht⟩
  split at ht
  · rename_i fs k hr
    obtain ⟨v, rfl, hm⟩ := ht
    go_wp2
    go_ret2
    exact ⟨hB1, .inl ⟨v, _, rfl, fs, k, hr, rfl, hm.mono hb⟩⟩
  · rename_i c' hr
    subst ht
    exact ⟨rfl, hB1, .inr ⟨c', rfl, hr⟩⟩

/-- a reading call's answer -/
def AnsL (w : World) (r : Except Int (List (List UInt8) × Nat)) (e : Ending) (w' : World) : Prop :=
  match r with
  | .ok (fs, k) => ∃ v, e = .returned (.tuple #[v, .int .i64 (k : Int), .int .i64 0]) ∧ MineL 24 5 w' w.heap.size v fs
  | .error c => e = .returned (.tuple #[.slice none 0 0, .int .i64 0, .int .i64 c])

theorem readl_any (b : List UInt8) (A : Option Addr) (n c B : Nat) (w : World) (h : Bs w B A n c b) (hB : B ≤ w.heap.size) :
    Calls Try.prog 20 #[.slice A n c] w fun e w' => AnsL w (readL b) e w' ∧ Below w.heap.size w w' := by
  have hmf : ∀ (fn : Fn) (first cap : Array Value) (w : World), (Instr.makeFunc fn first cap).run Try.prog w = .ok (.func fn first cap) w := fun _ _ _ _ => rfl
  go_enter Try.func20, Try.ntmps20
  go_wp2_with fail
  have hb := Blk.new w 24 #[.slice A n c]
  have h1 := h.alloc hB (.cells #[.slice A n c] 24)
  have hB1 := (Below.refl _ w).alloc (Nat.le_refl _) (.cells #[.slice A n c] 24)
  have hs1 : w.heap.size + 1 = (w.alloc (.cells #[.slice A n c] 24)).heap.size := by simp
  generalize w.alloc (.cells #[.slice A n c] 24) = w1 at *
  refine (read_bb 56 #[.pointer (some ⟨w.heap.size, 0, none⟩)] (VL (w1.heap.size + 1 + 1 + 1 + 1) b) (EL b) w1 (fun args w => by simp [callFunc, Try.func56, Try.f56, go_sem]) (fun c hc => by have := readL_err hc; omega)
    (fun w' hb' hsz => throwsL _ b A n c B w.heap.size w' (h1.below (hb'.mono (by omega))) (by omega) hsz ((hb.below hb' (by omega)).cell 0)) ⟨fun v n W p u _ hp ⟨f, k, e1, e2, hm⟩ => ⟨f, k, e1, e2, hm.setCell hp u⟩, fun v n W k ⟨f, k', e1, e2, hm⟩ => ⟨f, k', e1, e2, hm.drewN k⟩⟩ (fun v n W ⟨f, k, _, _, hm⟩ => hm.shape)).mono ?_
  rintro e w2 ⟨hB2, h2⟩
  have hBf := hB1.trans (hB2.mono (by omega))
  rcases h2 with ⟨v, m, rfl, f, k, hr, rfl, hm⟩ | ⟨c', hr, rfl⟩
  · go_wp2
    go_ret3
    exact ⟨by rw [hr]; exact ⟨v, rfl, hm.mono (by omega)⟩, hBf⟩
  · go_wp2
    go_ret3
    exact ⟨by rw [hr]; rfl, hBf⟩

end Go.Proofs.Ytdlbhppoknbnlaa
