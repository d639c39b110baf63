/-
  The walks of the reference's ReadInt, ReadField, ReadFields and Same. Condition: the bytes (the lists) read as such.
-/
import Derived.Test.YtdlbhppoknbnlaaRefU
import Derived.Test.YtdlbhppoknbnlaaNumbers
namespace Go.Proofs.Ytdlbhppoknbnlaa
open Go.RowKit

set_option maxRecDepth 100000 in
set_option maxHeartbeats 1000000 in
theorem refreadi_any (b : List UInt8) (A : Option Addr) (n c B : Nat) (w : World) (h : Bs w B A n c b) : Calls Try.prog 41 #[.slice A n c] w fun e w' => AnsI (readI b) e ∧ w = w' := by
  cases hu : readU b with
  | error er =>
    have her := readU_err hu
    have her0 : ¬ er = 0 := by omega
    have hI := hide (show readI b = .error er by rw [readI, hu])
    go_enter Try.func41, Try.ntmps41
    go_wp2_with fail
    refine (refreadu_any b A n c B w h).mono ?_
    rintro e w1 ⟨he, rfl⟩
    rw [hu] at he
    obtain rfl : e = .returned (.tuple #[.int .u64 0, .int .i64 0, .int .i64 er]) := he
    go_wp2
    go_ret3
    rw [hI.out]
    exact ⟨rfl, rfl⟩
  | ok p =>
    obtain ⟨u, k⟩ := p
    have hlt := readU_lt hu
    have hI := hide (show readI b = .ok (unzig u, k) by rw [readI, hu])
    by_cases hp : u % 2 = 0
    · have hz := hide (show unzig u = ((u : Int) / 2) by unfold unzig; rw [if_pos hp]; omega)
      have hp' : (u : Int) % 2 = 0 := by omega
      go_enter Try.func41, Try.ntmps41
      go_wp2_with fail
      refine (refreadu_any b A n c B w h).mono ?_
      rintro e w1 ⟨he, rfl⟩
      rw [hu] at he
      obtain rfl : e = .returned (.tuple #[.int .u64 (u : Int), .int .i64 (k : Int), .int .i64 0]) := he
      go_wp2
      go_ret3
      rw [hI.out, hz.out]
      exact ⟨rfl, rfl⟩
    · have hz := hide (show unzig u = -((u : Int) / 2) - 1 by unfold unzig; rw [if_neg hp]; omega)
      have hp' : ¬ (u : Int) % 2 = 0 := by omega
      go_enter Try.func41, Try.ntmps41
      go_wp2_with fail
      refine (refreadu_any b A n c B w h).mono ?_
      rintro e w1 ⟨he, rfl⟩
      rw [hu] at he
      obtain rfl : e = .returned (.tuple #[.int .u64 (u : Int), .int .i64 (k : Int), .int .i64 0]) := he
      go_wp2
      go_ret3
      rw [hI.out, hz.out]
      exact ⟨rfl, rfl⟩

set_option maxRecDepth 100000 in
set_option maxHeartbeats 1000000 in
theorem refreadf_any (b : List UInt8) (A : Option Addr) (n c B : Nat) (w : World) (h : Bs w B A n c b) (hB : B ≤ w.heap.size) : Calls Try.prog 44 #[.slice A n c] w fun e w' => AnsF w (readF b) e w' ∧ Below w.heap.size w w' := by
  have hr := h.reach
  have hcap := h.cap
  have hlen := h.len
  cases hu : readU b with
  | error er =>
    have her := readU_err hu
    have her0 : ¬ er = 0 := by omega
    have hF := hide (show readF b = .error er by rw [readF, hu])
    go_enter Try.func44, Try.ntmps44
    go_wp2_with fail
    refine (refreadu_any b A n c B w h).mono ?_
    rintro e w1 ⟨he, rfl⟩
    rw [hu] at he
    obtain rfl : e = .returned (.tuple #[.int .u64 0, .int .i64 0, .int .i64 er]) := he
    go_wp2
    go_ret3
    rw [hF.out]
    exact ⟨rfl, Below.refl _ _⟩
  | ok p =>
    obtain ⟨m, k⟩ := p
    have hk := readU_len hu
    have hm := readU_lt hu
    rw [hlen] at hk
    by_cases h1 : 1048576 < m
    · have hF := hide (show readF b = .error 2 by simp [readF, hu, h1])
      have h1' : (1048576 : Int) < (m : Int) := by omega
      go_enter Try.func44, Try.ntmps44
      go_wp2_with fail
      refine (refreadu_any b A n c B w h).mono ?_
      rintro e w1 ⟨he, rfl⟩
      rw [hu] at he
      obtain rfl : e = .returned (.tuple #[.int .u64 (m : Int), .int .i64 (k : Int), .int .i64 0]) := he
      go_wp2
      go_ret3
      rw [hF.out]
      exact ⟨rfl, Below.refl _ _⟩
    · have h1' : ¬ (1048576 : Int) < (m : Int) := by omega
      by_cases h2 : n - k < m
      · have hF := hide (show readF b = .error 20 by simp [readF, hu, hlen, h2]; omega)
        have h2' : (n : Int) - (k : Int) < (m : Int) := by omega
        clear hlen
        go_enter Try.func44, Try.ntmps44
        go_wp2_with fail
        refine (refreadu_any b A n c B w h).mono ?_
        rintro e w1 ⟨he, rfl⟩
        rw [hu] at he
        obtain rfl : e = .returned (.tuple #[.int .u64 (m : Int), .int .i64 (k : Int), .int .i64 0]) := he
        go_wp2
        go_ret3
        rw [hF.out]
        exact ⟨rfl, Below.refl _ _⟩
      · have hF := hide (show readF b = .ok ((b.drop k).take m, k + m) by simp [readF, hu, hlen, h2]; omega)
        have h2' : ¬ (n : Int) - (k : Int) < (m : Int) := by omega
        have hcut := run_cut2 (P := Try.prog) 24 5 Try.underlying24 (fun w => by simp [go_sem]) A n c .i64 .i64 (k : Int) ((k : Int) + (m : Int)) (by omega) (by omega) (by omega)
        have e1 : ((k : Int) + (m : Int)).toNat - ((k : Int)).toNat = m := by omega
        rw [e1, Int.toNat_natCast] at hcut
        have hbs := (h.cut k).take (k := m) (by omega)
        obtain ⟨v', w3, hrun, hm3, hg, _⟩ := append_mine (P := Try.prog) 24 Try.underlying24 info5 (Mine.made 5 w (Nat.le_refl _)) (by simp) (hbs.alloc hB (.cells #[] 5)) (by simp; omega)
        have hBl : Below w.heap.size w w3 := ((Below.refl _ w).alloc (Nat.le_refl _) _).trans ((Mine.made 5 w (Nat.le_refl _)).grown hg (Nat.le_refl _) (by simp))
        clear hlen
        go_enter Try.func44, Try.ntmps44
        go_wp2_with fail
        refine (refreadu_any b A n c B w h).mono ?_
        rintro e w1 ⟨he, rfl⟩
        rw [hu] at he
        obtain rfl : e = .returned (.tuple #[.int .u64 (m : Int), .int .i64 (k : Int), .int .i64 0]) := he
        go_wp2_with (at_builtin; refine wpList_append_run rfl _ _ 24 rfl _ _ _ rfl rfl hrun ?_)
        go_wp2
        go_ret3
        rw [hF.out]
        exact ⟨⟨v', by simp, by simpa using hm3⟩, hBl⟩

set_option maxRecDepth 100000 in
set_option maxHeartbeats 2000000 in
theorem refreadl_any (b : List UInt8) (A : Option Addr) (n c B : Nat) (w : World) (h : Bs w B A n c b) (hB : B ≤ w.heap.size) : Calls Try.prog 45 #[.slice A n c] w fun e w' => AnsL w (readL b) e w' ∧ Below w.heap.size w w' := by
  have hr := h.reach
  have hcap := h.cap
  have hlen := h.len
  cases hu : readU b with
  | error er =>
    have her := readU_err hu
    have her0 : ¬ er = 0 := by omega
    have hF := hide (show readL b = .error er by rw [readL, hu])
    go_enter Try.func45, Try.ntmps45
    go_wp2_with fail
    refine (refreadu_any b A n c B w h).mono ?_
    rintro e w1 ⟨he, rfl⟩
    rw [hu] at he
    obtain rfl : e = .returned (.tuple #[.int .u64 0, .int .i64 0, .int .i64 er]) := he
    go_wp2
    go_ret3
    rw [hF.out]
    exact ⟨rfl, Below.refl _ _⟩
  | ok p =>
    obtain ⟨m, k0⟩ := p
    have hk := readU_len hu
    rw [hlen] at hk
    by_cases h1 : 65536 < m
    · have hF := hide (show readL b = .error 2 by simp [readL, hu, h1])
      have h1' : (65536 : Int) < (m : Int) := by omega
      go_enter Try.func45, Try.ntmps45
      go_wp2_with fail
      refine (refreadu_any b A n c B w h).mono ?_
      rintro e w1 ⟨he, rfl⟩
      rw [hu] at he
      obtain rfl : e = .returned (.tuple #[.int .u64 (m : Int), .int .i64 (k0 : Int), .int .i64 0]) := he
      go_wp2
      go_ret3
      rw [hF.out]
      exact ⟨rfl, Below.refl _ _⟩
    · have h1' : ¬ (65536 : Int) < (m : Int) := by omega
      have hF := hide (show readL b = rdL b m k0 [] by simp [readL, hu]; omega)
      have hlen' := hide hlen
      clear hlen
      go_enter Try.func45, Try.ntmps45
      go_wp2_with fail
      refine (refreadu_any b A n c B w h).mono ?_
      rintro e w1 ⟨he, rfl⟩
      rw [hu] at he
      obtain rfl : e = .returned (.tuple #[.int .u64 (m : Int), .int .i64 (k0 : Int), .int .i64 0]) := he
      go_wp2
      go_loopw [6, 8, 9] (fun t6 t8 t9 wq => ∃ (i k : Nat) (acc : List (List UInt8)), i ≤ m ∧ t9 = .int .u64 (i : Int) ∧ t6 = .int .i64 (k : Int) ∧ k ≤ n ∧ acc.length = i ∧ (∀ f ∈ acc, f.length ≤ 1048576) ∧ MineL 24 5 wq w.heap.size t8 acc ∧ Below w.heap.size w wq ∧ rdL b (m - i) k acc = readL b) (fun _ _ t9 _ => m - (intOf t9).toNat)
      case atStart => exact ⟨0, k0, [], by omega, rfl, rfl, hk, rfl, by simp, MineL.nil _ _ _ _, Below.refl _ _, hF.out.symm⟩
      case round =>
        obtain ⟨i, k, acc, hi, rfl, rfl, hkn, hal, haf, hmm, hBw, he⟩ := hrel
        have hs := hBw.size
        have hal' := hide hal
        clear hal
        by_cases him : i < m
        · have he2 : rdL b (m - i) k acc = rdL b ((m - (i + 1)) + 1) k acc := by rw [show m - i = (m - (i + 1)) + 1 by omega]
          rw [he2, rdL] at he
          clear he2
          have hcut := run_cut (P := Try.prog) 24 5 Try.underlying24 (fun w => by simp [go_sem]) A n c .i64 (k : Int) (by omega) (by omega)
          simp only [Int.toNat_natCast] at hcut
          have hcall := hide (refreadf_any (b.drop k) _ _ _ B wr ((h.below (hBw.mono hB)).cut k) (by omega))
          cases hf : readF (b.drop k) with
          | error er =>
            have her := readF_err hf
            have her0 : ¬ er = 0 := by omega
            rw [hf] at he
            have He := hide he
            clear he
            go_wp2_with fail
            refine (hcall.out).mono ?_
            rintro e w1 ⟨ht, hB1⟩
            rw [hf] at ht
            obtain rfl : e = .returned (.tuple #[.slice none 0 0, .int .i64 0, .int .i64 er]) := ht
            go_wp2
            go_ret3
            rw [← He.out]
            exact ⟨rfl, hBw.trans (hB1.mono hs)⟩
          | ok p =>
            obtain ⟨f, k'⟩ := p
            rw [hf] at he
            have hfl := readF_len hf
            rw [List.length_drop, hlen'.out] at hfl
            have He := hide he
            clear he
            go_wp2_with fail
            refine (hcall.out).mono ?_
            rintro e w1 ⟨ht, hB1⟩
            rw [hf] at ht
            obtain ⟨fv, rfl, hmf⟩ := ht
            have hs1 := hB1.size
            obtain ⟨fA, fm, fc, rfl⟩ := mine_shape hmf
            have hm1 := (hmm.below hB1 (Nat.le_refl _)).alloc (.cells #[.slice fA fm fc] 24)
            have hmf1 := (hmf.mono hs).alloc (.cells #[.slice fA fm fc] 24)
            obtain ⟨v', w3, hrun, hm3, hg3⟩ := append_list (P := Try.prog) 41 Try.underlying41 info24 (by decide) hm1 (by simp; omega) (h0 := (fA, fm, fc)) hmf1 ((Blk.new w1 24 #[.slice fA fm fc]).cell 0) (by rw [hal'.out]; omega)
            have hB3 : Below w.heap.size w w3 := ((hBw.trans (hB1.mono hs)).alloc (by omega) _).trans (hm1.grown hg3 (Nat.le_refl _) (by simp; omega))
            clear hmm hm1 hmf hmf1 hg3 hB1 hcall hcut
            go_wp2_with (at_builtin; refine wpList_append_run rfl _ _ 41 rfl _ _ _ rfl rfl hrun ?_)
            go_roundw
            case rel => exact ⟨i + 1, k + k', acc ++ [f], by omega, by simp, by simp, by omega, by rw [List.length_append, hal'.out]; rfl, fun x hx => (List.mem_append.1 hx).elim (haf x) (fun e => by simp at e; subst e; exact hfl.2), hm3, hB3, He.out⟩
            case measure => simp [intOf]; omega
        · obtain rfl : i = m := by omega
          rw [Nat.sub_self, rdL] at he
          have He := hide he
          clear he
          go_wp2
          go_ret3
          rw [← He.out]
          exact ⟨⟨_, rfl, hmm⟩, hBw⟩

set_option maxRecDepth 100000 in
set_option maxHeartbeats 1000000 in
/-- Same, of lists that are alike -/
theorem same_any (fs : List (List UInt8)) (A1 A2 : Option Addr) (n c1 c2 B : Nat) (w : World) (h1 : Bss w B A1 n c1 fs) (h2 : Bss w B A2 n c2 fs) (hB : B ≤ w.heap.size) (hn : n ≤ 140737488351232) :
    Calls Try.prog 38 #[.slice A1 n c1, .slice A2 n c2] w fun e w' => e = .returned (.bool true) ∧ Below w.heap.size w w' := by
  have hlen := hide h1.len
  go_enter Try.func38, Try.ntmps38
  go_wp2
  go_loopw [5] (fun t5 wq => ∃ i : Nat, i ≤ n ∧ t5 = .int .i64 (i : Int) ∧ Below w.heap.size w wq) (fun t5 _ => n - (intOf t5).toNat)
  case atStart => exact ⟨0, by omega, rfl, Below.refl _ _⟩
  case round =>
    obtain ⟨i, hi, rfl, hBr⟩ := hrel
    by_cases hlt : i < n
    · have hif : i < fs.length := by rw [hlen.out]; exact hlt
      obtain ⟨b1, o1, rfl, hb1, hc1⟩ := (h1.below (hBr.mono hB)).at_ (by omega)
      obtain ⟨b2, o2, rfl, hb2, hc2⟩ := (h2.below (hBr.mono hB)).at_ (by omega)
      obtain ⟨X1, n1, d1, k1, s1⟩ := hc1 i hif
      obtain ⟨X2, n2, d2, k2, s2⟩ := hc2 i hif
      have t1 : ∀ m, StrAt X1 n1 d1 fs[i] (wr.drewN m) := fun m => strAt (s1.drewN m)
      have t2 : ∀ m, StrAt X2 n2 d2 fs[i] (wr.drewN m) := fun m => strAt (s2.drewN m)
      clear hc1 hc2 s1 s2
      generalize fs[i] = f at *
      go_wp2
      go_quiet (fail)
      go_wp2
      go_roundw
      case rel => exact ⟨i + 1, by omega, by simp, Below.drewN' hBr nq⟩
      case measure => simp [intOf]; omega
    · obtain rfl : i = n := by omega
      go_wp2
      go_ret
      exact ⟨rfl, hBr⟩

end Go.Proofs.Ytdlbhppoknbnlaa
