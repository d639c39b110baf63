/-
  The walks of the reference's Frame and Unframe. Condition: the slice reads as bytes.
-/
import Derived.Test.YtdnhpmdmkdgmpaaUnfr
namespace Go.Proofs.Ytdnhpmdmkdgmpaa
open Go.RowKit Go.Shelf

/-- what the reference's Frame gives -/
def FramedR (w : World) (ks : List UInt8) (e : Ending) (w' : World) : Prop := ∃ v, e = .returned (.tuple #[v, .int .i64 0]) ∧ Mine 5 w' w.heap.size v (frameB ks) ∧ Below w.heap.size w w'

set_option maxRecDepth 100000 in
set_option maxHeartbeats 1000000 in
theorem refframe_any (ks : List UInt8) (A : Option Addr) (n c : Nat) (w : World) (hks : Bs w w.heap.size A n c ks) (hn : n ≤ 16777216) :
    Calls Try.prog 20 #[.slice A n c] w (FramedR w ks) := by
  have hlen := hide hks.len
  have hul := uvar_len10 n (by omega)
  have hel := ext_lt ks (sum := 0) (by omega)
  go_enter Try.func20, Try.ntmps20
  go_wp2_with fail
  refine (refsum_any ks A n c _ w hks).mono ?_
  rintro e w1 ⟨rfl, rfl⟩
  go_wp2_with fail
  refine (refmask_any (ext 0 ks) w hel).mono ?_
  rintro e w1 ⟨rfl, rfl⟩
  go_wp2_with fail
  refine (refuint_any n (by omega) w).mono ?_
  rintro e w2 ⟨v1, rfl, hm2, hB2⟩
  obtain ⟨M, hM⟩ : ∃ M, maskN (ext 0 ks) = M := ⟨_, rfl⟩
  have hml := maskN_lt (ext 0 ks)
  rw [hM] at hml ⊢
  have hfr : frameB ks = uvar n ++ le4 M ++ ks := by rw [frameB, hlen.out, hM]
  have hk2 := (hks.below hB2).more hB2.size
  have hs2 := hB2.size
  have hf : Bs (w2.alloc (.cells ((le4 M).map b8).toArray 5)) _ (some ⟨w2.heap.size, 0, none⟩) 4 4 (le4 M) := Sl.of_blk (Blk.new w2 5 _) rfl (by omega) (by omega)
  have hm3 := hm2.alloc (.cells ((le4 M).map b8).toArray 5)
  have hk3 := hk2.alloc (Nat.le_refl _) (.cells ((le4 M).map b8).toArray 5)
  have hB3 := hB2.alloc hs2 (.cells ((le4 M).map b8).toArray 5)
  have hcells : ∀ a b c d : Int, a = (M : Int) % 256 → b = (M : Int) / 256 % 256 → c = (M : Int) / 65536 % 256 → d = (M : Int) / 16777216 % 256 → (#[.int .u8 a, .int .u8 b, .int .u8 c, .int .u8 d] : Array Value) = ((le4 M).map b8).toArray := by
    rintro a b c d rfl rfl rfl rfl
    have e : ∀ x : Nat, (((UInt8.ofNat x).toNat : Nat) : Int) = (x : Int) % 256 := fun x => by simp
    simp only [le4, List.map_cons, List.map_nil, b8, e]
    simp
  have Hc := hide hcells
  clear hcells
  have hs3 := hB3.size
  generalize hw3 : w2.alloc (.cells ((le4 M).map b8).toArray 5) = w3 at *
  obtain ⟨v4, w4, hrun, hm4, hg4, _⟩ := append_mine (P := Try.prog) 22 Try.underlying22 info5 hm3 hs3 hf (by omega)
  have hB4 := hB3.trans (hm3.grown hg4 (Nat.le_refl _) hs3)
  have hk4 := bs_row (hks.below hB3) hs3 hg4 (mine_far hm3)
  obtain ⟨v5, w5, hrun5, hm5, hg5, _⟩ := append_mine (P := Try.prog) 22 Try.underlying22 info5 hm4 hB4.size hk4 (by rw [List.length_append, le4_len]; omega)
  have hB5 := hB4.trans (hm4.grown hg5 (Nat.le_refl _) hB4.size)
  clear hm2 hm3 hm4 hf hk2 hk3 hk4 hks hg4 hg5 hB2 hB3 hB4 hul hel hM
  rw [← hw3] at hrun
  go_wp2_with (first
    | (at_builtin; rw [Hc.out _ _ _ _ (by omega) (by omega) (by omega) (by omega)]; refine wpList_append_run rfl _ _ 22 rfl _ _ _ rfl rfl hrun ?_)
    | (at_builtin; refine wpList_append_run rfl _ _ 22 rfl _ _ _ rfl rfl hrun5 ?_))
  go_ret2
  exact ⟨v5, rfl, by rw [hfr]; exact hm5, hB5⟩

theorem le4_eq {M : Nat} (hM : M < 4294967296) (a b c d : UInt8) : le4 M = [a, b, c, d] ↔ M = a.toNat + b.toNat * 256 + c.toNat * 65536 + d.toNat * 16777216 := by
  have ha := a.toNat_lt
  have hb := b.toNat_lt
  have hc := c.toNat_lt
  have hd := d.toNat_lt
  simp only [le4, List.cons.injEq, and_true, ← UInt8.toNat_inj, UInt8.toNat_ofNat']
  omega
theorem four_of (ks : List UInt8) (k : Nat) (h : k + 4 ≤ ks.length) : (ks.drop k).take 4 = [ks[k], ks[k + 1], ks[k + 2], ks[k + 3]] := by
  apply List.ext_getElem
  · simp; omega
  · intro i h1 h2
    simp at h2
    rcases i with _ | _ | _ | _ | i
    · simp
    · simp
    · simp
    · simp
    · omega

set_option maxRecDepth 100000 in
set_option maxHeartbeats 2000000 in
theorem refunfr_any (ks : List UInt8) (A : Option Addr) (n c : Nat) (w : World) (hks : Bs w w.heap.size A n c ks) :
    Calls Try.prog 21 #[.slice A n c] w fun e w' => AnsX w (unfr ks) e w' ∧ Below w.heap.size w w' := by
  have hlen := hide hks.len
  have hre := hks.reach
  have hcap := hks.cap
  go_enter Try.func21, Try.ntmps21
  go_wp2_with fail
  refine (refreadu_any ks A n c _ w hks).mono ?_
  rintro e w2 ⟨he, rfl⟩
  cases hu : readU ks with
  | error c' =>
    have hF := hide (show unfr ks = .error 30 by simp [unfr, hu])
    rw [hu] at he
    obtain rfl : e = .returned (.tuple #[.int .u64 0, .int .i64 0, .int .i64 c']) := he
    have hc0 : ¬ c' = 0 := by have := readU_err hu; omega
    go_wp2
    go_ret3
    refine ⟨?_, Below.refl _ _⟩
    rw [hF.out]
    rfl
  | ok p =>
    obtain ⟨m, k⟩ := p
    have hk := readU_len hu
    have hm := readU_lt hu
    rw [hlen.out] at hk
    rw [hu] at he
    obtain rfl : e = .returned (.tuple #[.int .u64 (m : Int), .int .i64 (k : Int), .int .i64 0]) := he
    by_cases h1 : 16777216 < m
    · have hF := hide (show unfr ks = .error 30 by simp [unfr, hu, h1])
      have h1' : (16777216 : Int) < (m : Int) := by omega
      go_wp2
      go_ret3
      refine ⟨?_, Below.refl _ _⟩
      rw [hF.out]
      rfl
    · have h1' : ¬ (16777216 : Int) < (m : Int) := by omega
      by_cases h2 : n < k + 4 + m
      · have hF := hide (show unfr ks = .error 30 by simp [unfr, hu, hlen.out, h2])
        by_cases h3 : (n : Int) - (k : Int) < 4
        · go_wp2
          go_ret3
          refine ⟨?_, Below.refl _ _⟩
          rw [hF.out]
          rfl
        · have h2' : (n : Int) - (k : Int) - 4 < (m : Int) := by omega
          go_wp2
          go_ret3
          refine ⟨?_, Below.refl _ _⟩
          rw [hF.out]
          rfl
      · have hF := hide (show unfr ks = if le4 (maskN (ext 0 ((ks.drop (k + 4)).take m))) = (ks.drop k).take 4 then .ok ((ks.drop (k + 4)).take m, k + 4 + m) else .error 31 by simp [unfr, hu, hlen.out, h1, h2])
        have h3 : ¬ (n : Int) - (k : Int) < 4 := by omega
        have h2' : ¬ (n : Int) - (k : Int) - 4 < (m : Int) := by omega
        have hcut := run_cut2 (P := Try.prog) 22 5 Try.underlying22 Try.sizeOf5 A n c .i64 .i64 ((k : Int) + 4) ((k : Int) + 4 + (m : Int)) (by omega) (by omega) (by omega)
        have e1 : ((k : Int) + 4 + (m : Int)).toNat - ((k : Int) + 4).toNat = m := by omega
        have e2 : ((k : Int) + 4).toNat = k + 4 := by omega
        rw [e1, e2] at hcut
        clear e1 e2
        have hbr := (hks.cut (k + 4)).take (k := m) (by omega)
        have hrl : ((ks.drop (k + 4)).take m).length = m := by rw [List.length_take, List.length_drop, hlen.out]; omega
        have hkl : k + 4 ≤ ks.length := by rw [hlen.out]; omega
        have hfour := four_of ks k hkl
        obtain ⟨b0, off, rfl, hb0, hc⟩ := hks.at_ (by omega)
        have x0 := hc k (by omega)
        have x1 := hc (k + 1) (by omega)
        have x2 := hc (k + 2) (by omega)
        have x3 := hc (k + 3) (by omega)
        have y0 := ks[k].toNat_lt
        have y1 := ks[k + 1].toNat_lt
        have y2 := ks[k + 2].toNat_lt
        have y3 := ks[k + 3].toNat_lt
        have hle := le4_eq (maskN_lt (ext 0 ((ks.drop (k + 4)).take m))) ks[k] ks[k + 1] ks[k + 2] ks[k + 3]
        rw [hfour] at hF
        rw [hlen.out] at hkl
        obtain ⟨rest, hrest⟩ : ∃ rest, (ks.drop (k + 4)).take m = rest := ⟨_, rfl⟩
        rw [hrest] at hF hbr hrl hle
        have hel := ext_lt rest (sum := 0) (by omega)
        generalize ks[k] = a0 at *
        generalize ks[k + 1] = a1 at *
        generalize ks[k + 2] = a2 at *
        generalize ks[k + 3] = a3 at *
        have Hle := hide hle
        have i0 : (0 : Int) ≤ (k : Int) := by omega
        have i1 : (k : Int) < (n : Int) := by omega
        have i2 : (k : Int) + 1 < (n : Int) := by omega
        have i3 : (k : Int) + 2 < (n : Int) := by omega
        have i4 : (k : Int) + 3 < (n : Int) := by omega
        have hn3 : (Int.toNat ((k : Int) + 1)) = k + 1 := by omega
        have hn4 : (Int.toNat ((k : Int) + 2)) = k + 2 := by omega
        have hn5 : (Int.toNat ((k : Int) + 3)) = k + 3 := by omega
        have w1 : IntKind.i64.wrap ((k : Int) + 1) = (k : Int) + 1 := by simp [IntKind.wrap, IntKind.bits, IntKind.signed]; omega
        have w2 : IntKind.i64.wrap ((k : Int) + 2) = (k : Int) + 2 := by simp [IntKind.wrap, IntKind.bits, IntKind.signed]; omega
        have w3 : IntKind.i64.wrap ((k : Int) + 3) = (k : Int) + 3 := by simp [IntKind.wrap, IntKind.bits, IntKind.signed]; omega
        have j1 : (0 : Int) ≤ (k : Int) + 1 := by omega
        have j2 : (0 : Int) ≤ (k : Int) + 2 := by omega
        have j3 : (0 : Int) ≤ (k : Int) + 3 := by omega
        have u : ∀ x : UInt8, IntKind.u32.wrap (x.toNat : Int) = (x.toNat : Int) := fun x => by have := x.toNat_lt; simp [IntKind.wrap, IntKind.bits, IntKind.signed]; omega
        clear hc hle hfour hrest hkl
        go_wp2
        go_quiet (fail)
        obtain ⟨N, hN⟩ : ∃ N, a0.toNat + a1.toNat * 256 + a2.toNat * 65536 + a3.toNat * 16777216 = N := ⟨_, rfl⟩
        have hNi : (a0.toNat : Int) + (a1.toNat : Int) * 256 + (a2.toNat : Int) * 65536 + (a3.toNat : Int) * 16777216 = (N : Int) := by omega
        rw [hNi]
        have hN2 := hide (Hle.out.trans (by rw [hN]) : le4 (maskN (ext 0 rest)) = [a0, a1, a2, a3] ↔ maskN (ext 0 rest) = N)
        obtain ⟨v4, w4, hrun, hm4, hg4, _⟩ := append_mine (P := Try.prog) 22 Try.underlying22 info5 (Mine.nil 5 (w.drewN nq) w.heap.size) (Nat.le_refl _) (hbr.drewN nq) (by simp; omega)
        have hB4 : Below w.heap.size w w4 := (Below.drewN' (Below.refl _ w) nq).trans ((Mine.nil 5 (w.drewN nq) w.heap.size).grown hg4 (Nat.le_refl _) (Nat.le_refl _))
        rw [List.nil_append] at hm4
        obtain ⟨A4, L4, c4, rfl, hL4, hb4⟩ := Mine.bsL hm4 (by omega)
        clear hL4 hg4 hbr x0 x1 x2 x3 hNi hN y0 y1 y2 y3 Hle hu hks
        have Hr := hide hrun
        clear hrun
        go_wp2_with (at_builtin; refine wpList_append_run rfl _ _ 22 rfl _ _ _ rfl rfl Hr.out ?_)
        refine (refsum_any rest A4 L4 c4 _ w4 hb4).mono ?_
        rintro e w5 ⟨rfl, rfl⟩
        go_wp2_with fail
        refine (refmask_any (ext 0 rest) w4 hel).mono ?_
        rintro e w5 ⟨rfl, rfl⟩
        by_cases hmm : maskN (ext 0 rest) = N
        · have hF2 := hide (show unfr ks = .ok (rest, k + 4 + m) by rw [hF.out, if_pos (hN2.out.2 hmm)])
          rw [hmm]
          go_wp2
          go_ret3
          refine ⟨?_, hB4⟩
          rw [hF2.out]
          exact ⟨_, by simp, hm4⟩
        · have hF2 := hide (show unfr ks = .error 31 by rw [hF.out, if_neg (fun e => hmm (hN2.out.1 e))])
          have hmm' : ¬ ((maskN (ext 0 rest) : Nat) : Int) = (N : Int) := by omega
          clear hmm
          generalize maskN (ext 0 rest) = M at *
          go_wp2
          go_ret3
          refine ⟨?_, hB4⟩
          rw [hF2.out]
          rfl

end Go.Proofs.Ytdnhpmdmkdgmpaa
