/-
  The walks of the reference's places and May. Condition: the slices read as bytes.
-/
import Derived.Test.YtkkjfehnkhhafaaMay
import Derived.Maps.AppendAt
import Derived.Test.YtkkjfehnkhhafaaRefHash
namespace Go.Proofs.Ytkkjfehnkhhafaa
open Go.RowKit Go.Shelf

theorem info32 : (Try.prog.info? 32).map (fun i => (i.zero, i.size, i.bytes)) = some (some (.int .u32 0), 1, 4) := by kernel_rfl
theorem info5 : (Try.prog.info? 5).map (fun i => (i.zero, i.size, i.bytes)) = some (some (.int .u8 0), 1, 1) := by kernel_rfl
theorem info25 : (Try.prog.info? 25).map (fun i => (i.zero, i.size, i.bytes)) = some (some (.slice none 0 0), 1, 24) := by kernel_rfl

theorem placesOf_succ (nb : Nat) (hb : 0 < nb) (ks : List UInt8) (k : Nat) : placesOf nb hb ks (k + 1) = placesOf nb hb ks k ++ [plAt nb hb (hash ks) k] := upto_succ _ _
/-- behind an append onto a row of the call's own: what lay below lies as it lay -/
theorem below_own {B base : Nat} {w a w1 : World} {e : TypeId} {size n : Nat} {v : Value} {xs : List Value} (h : Below B w a) (hg : a.grownBy w1 v.ownBlock) (hB : B ≤ a.heap.size) {w2 : World} (hown : w2.ownsRow base e size v n xs) (hb : B ≤ base := by omega) : Below B w w1 := by
  refine h.grown hg hB fun j ej => ?_
  rcases hown.2 with ⟨rfl, _⟩ | ⟨g, cap, cur, rfl, hgb, _, _⟩
  · simp [Value.ownBlock] at ej
  · obtain rfl : g = j := by simpa [Value.ownBlock] using ej
    omega
def u32v (x : Int) : Value := .int .u32 x

set_option maxRecDepth 100000 in
set_option maxHeartbeats 2000000 in
theorem refplaces_any (ks : List UInt8) (A : Option Addr) (kn kc BK many nb : Nat) (hm : many ≤ 255) (hb0 : 0 < nb) (hb1 : nb < 4294967296) (w : World) (hk : Bs w BK A kn kc ks) (hBK : BK ≤ w.heap.size) :
    Calls Try.prog 21 #[.slice A kn kc, .int .i64 (many : Int), .int .u32 (nb : Int)] w fun e w' => ∃ v, e = .returned v ∧ w'.ownsRow w.heap.size 32 1 v many ((placesOf nb hb0 ks many).map fun p => u32v p.1) ∧ Below w.heap.size w w' := by
  obtain ⟨i0, hi, hz0, hz1, hz2⟩ := info_parts info32
  obtain ⟨hh0, hh1⟩ := hash_range ks
  have hor : bits BinOp.or IntKind.u32 (hash ks / 131072) (hash ks * 32768 % 4294967296) = rot15 (hash ks) := or_comm_u32 _ _
  obtain ⟨hr0, hr1⟩ := rot15_range (hash ks)
  go_enter Try.func21, Try.ntmps21
  go_wp2_with fail
  refine (refhash_any ks A kn kc BK _ hk).mono ?_
  rintro e w' ⟨rfl, m0, rfl⟩
  go_wp2
  have Hor := hide hor
  clear hor
  go_loopw [7, 8, 10] (fun v h i wr => ∃ k : Nat, k ≤ many ∧ i = .int .i64 k ∧ h = .int .u32 (hAt (hash ks) (rot15 (hash ks)) k) ∧ wr.ownsRow w.heap.size 32 1 v k ((placesOf nb hb0 ks k).map fun p => u32v p.1) ∧ Below w.heap.size w wr)
    (fun _ _ i _ => many - (intOf i).toNat)
  case atStart => exact ⟨0, Nat.zero_le _, rfl, rfl, World.ownsRow_nil _ _ _ _, ⟨rfl, rfl, rfl, Nat.le_refl _, fun _ _ => rfl⟩⟩
  case round =>
    obtain ⟨k, hk', rfl, rfl, hown, hB⟩ := hrel
    obtain ⟨ha0, ha1⟩ := hAt_range (hash ks) (rot15 (hash ks)) hh0 hh1 k
    by_cases hlt : k < many
    · have hsz := hB.size
      have hpos : 0 ≤ (hAt (hash ks) (rot15 (hash ks)) k) % (nb : Int) := Int.emod_nonneg _ (by omega)
      go_wp2_with (at_builtin; refine wpList_append_own _ rfl _ _ 53 rfl w.heap.size 32 i0 (.int .u32 0) 1 4 Try.underlying53 hi hz0 hz1 hz2 rfl (by decide) _ _ _ rfl (hown.alloc _) ⟨wr.heap.size, 0, none⟩ 1 1 [.int .u32 ((hAt (hash ks) (rot15 (hash ks)) k) % (nb : Int))] rfl rfl (cell_one_new _ _ _) (by simp [Value.oneCell']) (by unfold maxLen; omega) (by omega) (by simp; omega) ?_; intro v' w1 hown' hgrow _)
      clear hi hz0 hz1 hz2
      go_roundw
      case rel => exact ⟨k + 1, by omega, by simp, by simp only [hAt], by rw [placesOf_succ, List.map_append]; exact hown', below_own (hB.alloc hsz _) hgrow (by simp; omega) hown⟩
      case measure => simp [intOf]; omega
    · obtain rfl : k = many := by omega
      go_wp2
      go_ret
      exact ⟨_, rfl, hown, hB⟩

theorem refplaces_at (ks : List UInt8) (A : Option Addr) (kn kc BK many nb : Nat) (nbI : Int) (hI : nbI = (nb : Int)) (hm : many ≤ 255) (hb0 : 0 < nb) (hb1 : nb < 4294967296) (w : World) (hk : Bs w BK A kn kc ks) (hBK : BK ≤ w.heap.size) :
    Calls Try.prog 21 #[.slice A kn kc, .int .i64 (many : Int), .int .u32 nbI] w fun e w' => ∃ v, e = .returned v ∧ w'.ownsRow w.heap.size 32 1 v many ((placesOf nb hb0 ks many).map fun p => u32v p.1) ∧ Below w.heap.size w w' := by
  subst hI
  exact refplaces_any ks A kn kc BK many nb hm hb0 hb1 w hk hBK

/-- what is owned, as a slice that reads -/
theorem own_sl {w : World} {base : Nat} {e : TypeId} {v : Value} {n : Nat} {xs : List Value} (h : w.ownsRow base e 1 v n xs) (hn : n ≤ 140737488351232) : ∃ A c, v = .slice A n c ∧ Sl w w.heap.size A n c xs := by
  have hl := h.1
  rcases h.2 with ⟨rfl, rfl⟩ | ⟨g, cap, cur, rfl, hg, hh, hnc, r⟩
  · obtain rfl : xs = [] := List.eq_nil_of_length_eq_zero (by simpa using hl)
    exact ⟨none, 0, rfl, Sl.nil _ _ _ _⟩
  · exact ⟨_, cap, rfl, by simpa using hl, hnc, hn, Row.of_own (e := e) (base := base) (n := n) (c := cap) h⟩

set_option maxRecDepth 100000 in
set_option maxHeartbeats 2000000 in
theorem refmay_any (fs ks : List UInt8) (FA A : Option Addr) (fn fc kn kc BF BK : Nat) (w : World) (hf : Bs w BF FA fn fc fs) (hBF : BF ≤ w.heap.size) (hk : Bs w BK A kn kc ks) (hBK : BK ≤ w.heap.size) (hlen : fn ≤ 16777217) :
    Calls Try.prog 16 #[.slice FA fn fc, .slice A kn kc] w fun e w' => e = .returned (.bool (mayOf fs ks)) ∧ Below w.heap.size w w' := by
  have hfl := hide hf.len
  by_cases h2 : fn < 2
  · have hm : mayOf fs ks = false := by unfold mayOf; rw [dif_pos (by rw [hfl.out]; exact h2)]
    have Hm := hide hm
    clear hm
    go_enter Try.func16, Try.ntmps16
    go_wp2
    go_ret
    exact ⟨by rw [Hm.out]; rfl, Below.refl _ _⟩
  · obtain ⟨b, off, rfl, hb, hc0⟩ := hf.at_ (by omega)
    obtain ⟨m, rfl⟩ : ∃ m, fn = m + 1 := ⟨fn - 1, by omega⟩
    have hc1 := hc0 m (by rw [hfl.out]; omega)
    obtain ⟨kb, hkb⟩ : ∃ kb, kb = fs[m]'(by rw [hfl.out]; omega) := ⟨_, rfl⟩
    rw [← hkb] at hc1
    have hkb' : fs.getD (fs.length - 1) 0 = kb := by
      have := hfl.out
      rw [List.getD_eq_getElem?_getD, List.getElem?_eq_getElem (by omega), Option.getD_some, hkb]
      congr 1
      omega
    have Hkb := hide hkb'
    clear hkb hkb'
    have hbw : b < w.heap.size := by omega
    have hkl := u8_lt kb
    by_cases h30 : 30 < kb.toNat
    · have hm : mayOf fs ks = true := by unfold mayOf; rw [dif_neg (by rw [hfl.out]; exact h2), Hkb.out, if_pos h30]
      have Hm := hide hm
      clear hm
      go_enter Try.func16, Try.ntmps16
      go_wp2
      go_ret
      exact ⟨by rw [Hm.out]; rfl, Below.refl _ _⟩
    · have hm0 : 0 < 8 * m := by omega
      have Hm := hide (mayOf_eq (ks := ks) hfl.out hm0 Hkb.out h30)
      have cp := refplaces_at ks A kn kc BK kb.toNat (8 * m) (8 * (m : Int)) (cast8 m).symm (by omega) hm0 (by omega) w hk hBK
      have Cp := hide cp
      clear cp
      go_enter Try.func16, Try.ntmps16
      go_wp2_with fail
      refine Calls.mono Cp.out ?_
      rintro e w1 ⟨v, rfl, hown, hB⟩
      obtain ⟨VA, vc, rfl, hsl⟩ := own_sl hown (by omega)
      have hpl : (placesOf (8 * m) hm0 ks kb.toNat).length = kb.toNat := upto_length _ _
      obtain ⟨ps, hps⟩ : ∃ ps, ps = placesOf (8 * m) hm0 ks kb.toNat := ⟨_, rfl⟩
      rw [← hps] at hpl hsl Hm
      have Hpl := hide hpl
      clear hpl hps
      go_wp2
      go_loop [30] (fun i => ∃ k : Nat, k ≤ kb.toNat ∧ i = .int .i64 k ∧ ∀ j (hj : j < ps.length), j < k → bitAt fs ps[j].1 = true)
        (fun i => kb.toNat - (intOf i).toNat)
      case atStart => exact ⟨0, Nat.zero_le _, rfl, fun j _ h => absurd h (Nat.not_lt_zero _)⟩
      case round =>
        obtain ⟨k, hk', rfl, hall⟩ := hrel
        by_cases hlt : k < kb.toNat
        · have hkp : k < ps.length := by have := Hpl.out; omega
          obtain ⟨vb, voff, rfl, hvb, hvc⟩ := hsl.at_ (by omega)
          have hcv := hvc k (by simpa using hkp)
          obtain ⟨⟨p, hp0, hp1⟩, hpk⟩ : ∃ p, p = ps[k] := ⟨_, rfl⟩
          have hcv' : w1.cell? ⟨vb, voff + k, none⟩ = some (.int .u32 p) := by rw [hcv]; simp [← hpk, u32v]
          have Hpk := hide hpk
          clear hpk hcv hvc
          have hq : (p / 8).toNat < fs.length := by have := hfl.out; omega
          obtain ⟨kq, hkq⟩ : ∃ kq, kq = fs[(p / 8).toNat]'hq := ⟨_, rfl⟩
          have hcq : w1.cell? ⟨b, off + (p / 8).toNat, none⟩ = some (.int .u8 (kq.toNat : Int)) := by rw [hkq]; exact (hB.cell (p := ⟨b, off + (p / 8).toNat, none⟩) hbw).trans (hc0 _ hq)
          have hbt := bit_test_mod kq (p % 8).toNat
          have hba : bitAt fs p = ((kq.toNat / 2 ^ (p % 8).toNat) % 2 == 1) := by
            unfold bitAt
            rw [List.getD_eq_getElem?_getD, List.getElem?_eq_getElem hq, Option.getD_some, hkq]
          rw [← hba] at hbt
          have Hbt := hide hbt
          have Hkq := hide hkq
          clear hkq hbt hba
          have hql := u8_lt kq
          have hnn : 0 ≤ (kq.toNat : Int) / 2 ^ (p % 8).toNat := by rw [shr_cast]; exact Int.natCast_nonneg _
          go_wp2
          · have ht : ((kq.toNat : Int) / 2 ^ (p % 8).toNat % 2 == 0) = true := by assumption
            have hbf : bitAt fs p = false := by have := Hbt.out; rw [ht] at this; simpa using this
            go_ret
            refine ⟨?_, hB⟩
            have hf : (ps.all fun q => bitAt fs q.1) = false := List.all_eq_false.2 ⟨ps[k], List.getElem_mem hkp, by rw [← Hpk.out]; simpa using hbf⟩
            rw [Hm.out, hf]; rfl
          · have ht : ((kq.toNat : Int) / 2 ^ (p % 8).toNat % 2 == 0) = false := by assumption
            have hbf : bitAt fs p = true := by have := Hbt.out; rw [ht] at this; simpa using this
            go_round
            case rel =>
              refine ⟨k + 1, by omega, by simp, fun j hj hjk => ?_⟩
              rcases Nat.lt_or_ge j k with h | h
              · exact hall j hj h
              · obtain rfl : j = k := by omega
                rw [← Hpk.out]; exact hbf
            case measure => simp [intOf]; omega
        · obtain rfl : k = kb.toNat := by omega
          go_wp2
          go_ret
          refine ⟨?_, hB⟩
          have hf : (ps.all fun q => bitAt fs q.1) = true := List.all_eq_true.2 fun q hq => by
            obtain ⟨j, hj, rfl⟩ := List.getElem_of_mem hq
            exact hall j hj (by have := Hpl.out; omega)
          rw [Hm.out, hf]; rfl

end Go.Proofs.Ytkkjfehnkhhafaa
