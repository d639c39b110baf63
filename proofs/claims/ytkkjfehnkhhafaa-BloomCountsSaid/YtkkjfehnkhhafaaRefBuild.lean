/-
  The walk of the reference's Build. Condition: the slice reads as lists of bytes, of at most so many elements as memory holds.
-/
import Derived.Test.YtkkjfehnkhhafaaBuild
import Derived.Deep.Cut
import Derived.Deep.DeepCutAuto
namespace Go.Proofs.Ytkkjfehnkhhafaa
open Go.RowKit Go.Shelf

/-- block b holds these cells from its head on -/
def RowAt (w : World) (b : Nat) (xs : List Value) : Prop := ∀ j u, xs[j]? = some u → w.cell? ⟨b, j, none⟩ = some u
theorem RowAt.set {w : World} {b : Nat} {xs : List Value} (h : RowAt w b xs) {p : Addr} (hp : p.block ≠ b) (u : Value) : RowAt (w.setCell p u) b xs :=
  fun j v hv => (World.cell?_setCell_other w p ⟨b, j, none⟩ u (fun e => hp (by rw [e]))).trans (h j v hv)
theorem own_row {w : World} {base : Nat} {e : TypeId} {v : Value} {n : Nat} {xs : List Value} (h : w.ownsRow base e 1 v n xs) (hn : 0 < n) : ∃ g c, v = .slice (some ⟨g, 0, none⟩) n c ∧ base ≤ g ∧ n ≤ c ∧ RowAt w g xs := by
  have hl := h.1
  rcases h.2 with ⟨_, h0⟩ | ⟨g, cap, cur, rfl, hg, hh, hnc, r⟩
  · omega
  · refine ⟨g, cap, rfl, hg, hnc, fun j u hu => ?_⟩
    have := h.cells (g := g) rfl j u hu
    simpa [Addr.add_lit] using this
theorem own_of_blk {w : World} {base g : Nat} {e : TypeId} {xs : List Value} (h : Blk w g e xs.toArray) (hb : base ≤ g) {n : Nat} (hn : xs.length = n) (hm : n ≤ maxLen) : w.ownsRow base e 1 (.slice (some ⟨g, 0, none⟩) n n) n xs :=
  ⟨by omega, .inr ⟨g, n, xs.toArray, rfl, hb, h, Nat.le_refl _, hm, by simp [hn], by simp [← hn]⟩⟩

theorem refprobes_at (per : Int) (kk : Nat) (hk : probesOf per = (kk : Int)) (w : World) (h0 : -9223372036854775808 ≤ per) (h1 : per ≤ 9223372036854775807) :
    Calls Try.prog 12 #[.int .i64 per] w fun e w' => e = .returned (.int .i64 (kk : Int)) ∧ w = w' := by
  have := refprobes_any per w h0 h1
  rw [hk] at this
  exact this.mono fun _ _ ⟨a, b⟩ => ⟨a, b.symm⟩

set_option maxRecDepth 100000 in
set_option maxHeartbeats 4000000 in
theorem refbuild_any (kss : List (List UInt8)) (A : Option Addr) (n c B : Nat) (per : Int) (w : World) (h : Bss w B A n c kss) (hB : B ≤ w.heap.size) (hn : n ≤ 5864062014634) (hp0 : -9223372036854775808 ≤ per) (hp1 : per ≤ 9223372036854775807) :
    Calls Try.prog 10 #[.slice A n c, .int .i64 per] w (Built w (errOf per n) (bytesOf per kss)) := by
  have hlen := hide h.len
  by_cases ha : per < 1
  · have he := hide (show errOf per n = 1 by simp [errOf, ha])
    have he2 := hide (show errOf per kss.length = 1 by rw [hlen.out]; exact he.out)
    go_enter Try.func10, Try.ntmps10
    go_wp2
    go_ret2
    refine ⟨none, 0, 0, ?_, ?_, Below.refl _ _⟩
    · rw [he.out]; rfl
    · rw [show bytesOf per kss = [] by simp [bytesOf, he2.out]]; exact Bs.nil _ _ _ _
  · by_cases hb : 64 < per
    · have he := hide (show errOf per n = 1 by simp [errOf, hb])
      have he2 := hide (show errOf per kss.length = 1 by rw [hlen.out]; exact he.out)
      go_enter Try.func10, Try.ntmps10
      go_wp2
      go_ret2
      refine ⟨none, 0, 0, ?_, ?_, Below.refl _ _⟩
      · rw [he.out]; rfl
      · rw [show bytesOf per kss = [] by simp [bytesOf, he2.out]]; exact Bs.nil _ _ _ _
    · obtain ⟨p, rfl⟩ := Int.eq_ofNat_of_zero_le (show 0 ≤ per by omega)
      have hp : p ≤ 64 := by omega
      have hpn : p * n ≤ 64 * n := Nat.mul_le_mul hp (Nat.le_refl _)
      obtain ⟨m, hm⟩ : ∃ m, m = p * n := ⟨_, rfl⟩
      have hmc : ((p : Int) * (n : Int)) = (m : Int) := by rw [hm]; simp
      rw [← hm] at hpn
      have Hm := hide hm
      clear hm
      obtain ⟨M, hM⟩ : ∃ M, M = if m < 64 then 64 else m := ⟨_, rfl⟩
      have hM64 : 64 ≤ M := by rw [hM]; split <;> omega
      have hMb : M ≤ 64 * n + 64 := by rw [hM]; split <;> omega
      obtain ⟨wd, hwd⟩ : ∃ wd, wd = (M + 7) / 8 := ⟨_, rfl⟩
      have hwo : wideOf p n = wd := by unfold wideOf; rw [← Hm.out, ← hM, hwd]
      have hwI : ((M : Int) + 7) / 8 = (wd : Int) := by omega
      have hwd8 : 8 ≤ wd := by omega
      have hwdb : wd ≤ 8 * n + 9 := by omega
      have Hwo := hide hwo
      have HM := hide hM
      have Hwd := hide hwd
      clear hM hwo hwd
      go_enter Try.func10, Try.ntmps10
      go_upto_if 24 with (fail)
      go_cut [6] from 23 (fun s w' => s = .int .i64 (M : Int) ∧ w' = w)
      case first =>
        by_cases h64 : m < 64
        · go_wp2
          go_meet
          case rel => exact ⟨by have := HM.out; rw [if_pos h64] at this; rw [this]; rfl, rfl⟩
        · go_wp2
          go_meet
          case rel => exact ⟨by have := HM.out; rw [if_neg h64] at this; rw [this], rfl⟩
      case rest =>
        obtain ⟨rfl, rfl⟩ := hcut
        by_cases hbig : 16777216 < wd
        · have he := hide (show errOf p n = 2 by unfold errOf; rw [if_neg (by omega), if_neg (by omega), Int.toNat_natCast, Hwo.out, if_pos hbig])
          have he2 := hide (show errOf p kss.length = 2 by rw [hlen.out]; exact he.out)
          go_wp2
          go_ret2
          refine ⟨none, 0, 0, ?_, ?_, Below.refl _ _⟩
          · rw [he.out]; rfl
          · rw [show bytesOf p kss = [] by simp [bytesOf, he2.out]]; exact Bs.nil _ _ _ _
        · have he := hide (show errOf p n = 0 by unfold errOf; rw [if_neg (by omega), if_neg (by omega), Int.toNat_natCast, Hwo.out, if_neg hbig])
          have hmk := run_make_bytes wd (wd : Int) rfl (by omega)
          have hpr := probesOf_range (p : Int)
          obtain ⟨kk, hkk⟩ := Int.eq_ofNat_of_zero_le (show 0 ≤ probesOf (p : Int) by omega)
          have hk30 : kk ≤ 30 := by omega
          have hk1 : 1 ≤ kk := by omega
          have Hkk := hide hkk
          clear hkk hpr
          have hb8 : 0 < 8 * wd := by omega
          go_wp2_with fail
          go_loopw [34] (fun i wr => ∃ k : Nat, k ≤ n ∧ i = .int .i64 (k : Int) ∧ Blk wr wc.heap.size 5 ((fillAll (8 * wd) hb8 kk (List.replicate wd 0) (kss.take k)).map b8).toArray ∧ Below wc.heap.size wc wr)
            (fun i _ => n - (intOf i).toNat)
          case atStart =>
            exact ⟨0, Nat.zero_le _, rfl, Blk.new wc 5 (zerosA wd), (Below.refl _ wc).alloc (Nat.le_refl _) _⟩
          case round =>
            obtain ⟨k, hk, rfl, hblk, hBw⟩ := hrel
            have hgl := hblk.lt
            by_cases hlt : k < n
            · obtain ⟨b, off, rfl, hbb, hc0⟩ := h.at_ (by omega)
              obtain ⟨Ai, ni, ci, hci, hkey⟩ := hc0 k (by rw [hlen.out]; exact hlt)
              have hci' : wr.cell? ⟨b, off + k, none⟩ = some (.slice Ai ni ci) := (hBw.cell (p := ⟨b, off + k, none⟩) (by show b < _; omega)).trans hci
              clear hc0 hci
              go_wp2_with fail
              refine (refprobes_at p kk Hkk.out _ (by omega) (by omega)).mono ?_
              rintro e w' ⟨rfl, rfl⟩
              go_wp2_with fail
              refine (refplaces_at (kss[k]'(by rw [hlen.out]; exact hlt)) Ai ni ci wr.heap.size kk (8 * wd) (8 * (wd : Int)) (cast8 wd).symm (by omega) hb8 (by omega) wr (((hkey.more hB).below hBw).more hBw.size) (Nat.le_refl _)).mono ?_
              rintro e w1 ⟨v, rfl, hown, hB1⟩
              obtain ⟨vb, vc, rfl, hvb, hvc, hrow⟩ := own_row hown (by omega)
              have hblk1 := hblk.below hB1 hgl
              have hBw1 := hBw.trans (hB1.mono hBw.size)
              obtain ⟨ps, hps⟩ : ∃ ps, ps = placesOf (8 * wd) hb8 (kss[k]'(by rw [hlen.out]; exact hlt)) kk := ⟨_, rfl⟩
              have hpl : ps.length = kk := by rw [hps]; exact upto_length _ _
              rw [← hps] at hrow
              have Hps := hide hps
              have Hpl := hide hpl
              clear hps hpl
              obtain ⟨X, hX⟩ : ∃ X, X = fillAll (8 * wd) hb8 kk (List.replicate wd 0) (kss.take k) := ⟨_, rfl⟩
              have hXl : X.length = wd := by rw [hX, fillAll_length, List.length_replicate]
              rw [← hX] at hblk1
              have HX := hide hX
              have HXl := hide hXl
              clear hX hXl
              go_wp2
              go_loopw [46] (fun i wi => ∃ j : Nat, j ≤ kk ∧ i = .int .i64 (j : Int) ∧ Blk wi wc.heap.size 5 ((setAll X (ps.take j)).map b8).toArray ∧ Below wc.heap.size wc wi ∧ RowAt wi vb (ps.map fun p => u32v p.1))
                (fun i _ => kk - (intOf i).toNat)
              case atStart => exact ⟨0, Nat.zero_le _, rfl, hblk1, hBw1, hrow⟩
              case round =>
                obtain ⟨j, hj, rfl, hblk2, hBw2, hrow2⟩ := hrel
                by_cases hjk : j < kk
                · have hjp : j < ps.length := by have := Hpl.out; omega
                  obtain ⟨⟨q, hq0, hq1⟩, hpk⟩ : ∃ p, p = ps[j] := ⟨_, rfl⟩
                  have hcv' : wr.cell? ⟨vb, j, none⟩ = some (.int .u32 q) := hrow2 j _ (by simp [List.getElem?_eq_getElem hjp, ← hpk, u32v])
                  obtain ⟨Y, hY⟩ : ∃ Y, Y = setAll X (ps.take j) := ⟨_, rfl⟩
                  have hYl : Y.length = wd := by rw [hY, setAll_length, HXl.out]
                  rw [← hY] at hblk2
                  have hqi : (q / 8).toNat < Y.length := by omega
                  have hcq : wr.cell? ⟨wc.heap.size, (q / 8).toNat, none⟩ = some (.int .u8 (Y[(q / 8).toNat].toNat : Int)) := by
                    rw [hblk2.cell]; simp [List.getElem?_eq_getElem hqi, b8]
                  have hfq : wr.frozen? ⟨wc.heap.size, (q / 8).toNat, none⟩ = false := hblk2.frozen _
                  obtain ⟨kq, hkq⟩ : ∃ kq, kq = Y[(q / 8).toNat] := ⟨_, rfl⟩
                  rw [← hkq] at hcq
                  have hql := u8_lt kq
                  have HY := hide hY
                  have HYl := hide hYl
                  have Hkq := hide hkq
                  have Hpk := hide hpk
                  clear hY hYl hkq hpk
                  go_wp2
                  go_roundw
                  case rel =>
                    have hv : (Value.int .u8 (bits BinOp.or IntKind.u8 (kq.toNat : Int) (2 ^ (q % 8).toNat % 256))) = b8 (UInt8.ofNat (kq.toNat ||| 2 ^ (q % 8).toNat)) := by
                      rw [or_bit kq _ (by omega), b8]
                    have hset : Y.set (q / 8).toNat (UInt8.ofNat (kq.toNat ||| 2 ^ (q % 8).toNat)) = setBit Y q := by
                      unfold setBit
                      rw [List.getD_eq_getElem?_getD, List.getElem?_eq_getElem hqi, Option.getD_some, ← Hkq.out]
                    have hnew := hblk2.put (q / 8).toNat (b8 (UInt8.ofNat (kq.toNat ||| 2 ^ (q % 8).toNat)))
                    rw [set_row0, hset] at hnew
                    rw [hv]
                    refine ⟨j + 1, by omega, by simp, ?_, hBw2.setCell (p := ⟨wc.heap.size, (q / 8).toNat, none⟩) (Nat.le_refl _) _, hrow2.set (p := ⟨wc.heap.size, (q / 8).toNat, none⟩) (by show wc.heap.size ≠ vb; omega) _⟩
                    rw [take_snoc' ps j hjp, setAll_snoc, ← HY.out, ← Hpk.out]
                    exact hnew
                  case measure => simp [intOf]; omega
                · obtain rfl : j = kk := by omega
                  go_wp2
                  go_roundw
                  case rel =>
                    refine ⟨k + 1, by omega, by simp, ?_, hBw2⟩
                    rw [take_snoc' kss k (by rw [hlen.out]; exact hlt), fillAll_snoc, ← Hps.out, ← HX.out]
                    rw [List.take_of_length_le (by rw [Hpl.out]; exact Nat.le_refl _)] at hblk2
                    exact hblk2
                  case measure => simp [intOf]; omega
            · obtain rfl : k = n := by omega
              have htk : kss.take k = kss := List.take_of_length_le (by rw [hlen.out]; exact Nat.le_refl _)
              rw [htk] at hblk
              obtain ⟨X, hX⟩ : ∃ X, X = fillAll (8 * wd) hb8 kk (List.replicate wd 0) kss := ⟨_, rfl⟩
              have hXl : X.length = wd := by rw [hX, fillAll_length, List.length_replicate]
              rw [← hX] at hblk
              have HX := hide hX
              have HXl := hide hXl
              clear hX hXl htk
              obtain ⟨i0, hi, hz0, hz1, hz2⟩ := info_parts info5
              have hown := own_of_blk (n := wd) hblk (Nat.le_refl _) (by simp [HXl.out]) (by unfold maxLen; omega)
              have hsw := hBw.size
              go_wp2_with fail
              refine (refprobes_at p kk Hkk.out _ (by omega) (by omega)).mono ?_
              rintro e w' ⟨rfl, rfl⟩
              go_wp2_with (at_builtin; refine wpList_append_own _ rfl _ _ 25 rfl wc.heap.size 5 i0 (.int .u8 0) 1 1 Try.underlying25 hi hz0 hz1 hz2 rfl (by decide) _ _ _ rfl (hown.alloc _) ⟨wr.heap.size, 0, none⟩ 1 1 [.int .u8 (kk : Int)] rfl rfl (cell_one_new _ _ _) (by simp [Value.oneCell']) (by unfold maxLen; omega) (by omega) (by simp; omega) ?_; intro v' w1 hown' hgrow _)
              clear hi hz0 hz1 hz2 hmk
              obtain ⟨VA, vc, rfl, hsl⟩ := own_sl hown' (by omega)
              have hfin : bytesOf p kss = X ++ [UInt8.ofNat kk] := by
                have hke : (probesOf (p : Int)).toNat = kk := by rw [Hkk.out, Int.toNat_natCast]
                have hwo : wideOf (p : Int).toNat kss.length = wd := by rw [hlen.out, Int.toNat_natCast, Hwo.out]
                unfold bytesOf
                rw [if_pos (by rw [hlen.out]; exact he.out), HX.out]
                subst hke
                subst hwo
                rfl
              have hkb : (Value.int .u8 (kk : Int)) = b8 (UInt8.ofNat kk) := by
                rw [b8, UInt8.toNat_ofNat_of_lt' (show kk < 256 by omega)]
              go_ret2
              refine ⟨VA, wd + 1, vc, ?_, ?_, below_own (hBw.alloc hsw _) hgrow (by simp; omega) hown⟩
              · rw [he.out]; rfl
              · rw [hfin]
                rw [hkb] at hsl
                have : (X ++ [UInt8.ofNat kk]).map b8 = X.map b8 ++ [b8 (UInt8.ofNat kk)] := by simp
                unfold Bs
                rw [this]
                exact hsl

end Go.Proofs.Ytkkjfehnkhhafaa
