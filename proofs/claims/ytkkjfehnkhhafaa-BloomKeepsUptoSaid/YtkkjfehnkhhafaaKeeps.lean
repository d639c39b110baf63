/-
  The walk of the law BloomKeeps: it answers true. Condition: the slice reads as lists of bytes, of at most 1048576 elements.
-/
import Derived.Test.YtkkjfehnkhhafaaBuilds
import Derived.Test.YtkkjfehnkhhafaaBits
namespace Go.Proofs.Ytkkjfehnkhhafaa
open Go.RowKit Go.Shelf

/-- an owned row of slice values, which themselves read as lists of bytes -/
theorem bss_of_own {w : World} {base B : Nat} {e : TypeId} {v : Value} {n : Nat} {hs : List (Option Addr × Nat × Nat)} {kss : List (List UInt8)} (h : w.ownsRow base e 1 v n (hs.map sv)) (hn : n ≤ 140737488351232) (hB : B ≤ w.heap.size)
    (hl : hs.length = kss.length) (hr : ∀ (i : Nat) (h : Option Addr × Nat × Nat) (ks : List UInt8), hs[i]? = some h → kss[i]? = some ks → Bs w B h.1 h.2.1 h.2.2 ks) : ∃ A c, v = .slice A n c ∧ Bss w w.heap.size A n c kss := by
  obtain ⟨A, c, rfl, hsl⟩ := own_sl h hn
  exact ⟨A, c, rfl, hs, hsl, hl, fun i h ks e1 e2 => (hr i h ks e1 e2).more hB⟩

set_option maxRecDepth 100000 in
set_option maxHeartbeats 2000000 in
theorem keeps_any (kss : List (List UInt8)) (A : Option Addr) (n c : Nat) (per : Int) (w : World) (h : Bss w w.heap.size A n c kss) (hn : n ≤ 1048576) (hp0 : -9223372036854775808 ≤ per) (hp1 : per ≤ 9223372036854775807) :
    Calls Try.prog 5 #[.slice A n c, .int .i64 per] w fun e w' => e = .returned (.bool true) ∧ Below w.heap.size w w' := by
  have hlen := hide h.len
  go_enter Try.func5, Try.ntmps5
  go_wp2_with fail
  refine (awake_any w).mono ?_
  rintro e w1 ⟨rfl, hB1⟩
  have hs1 := hB1.size
  go_wp2_with fail
  refine (few_any kss A n c w.heap.size w1 (by omega) (h.below hB1)).mono ?_
  rintro e w1' ⟨bv, rfl, rfl⟩
  cases bv with
  | false =>
    go_wp2
    go_ret
    exact ⟨rfl, hB1⟩
  | true =>
    by_cases hpa : per < 1
    · go_wp2
      go_ret
      exact ⟨rfl, hB1⟩
    · by_cases hpb : 64 < per
      · go_wp2
        go_ret
        exact ⟨rfl, hB1⟩
      · have he := err_small per n (by omega) (by omega) hn
        go_wp2_with fail
        refine (build_any kss A n c w.heap.size per _ (h.below hB1) hs1 (by omega) hp0 hp1).mono ?_
        rintro e w2 ⟨A2, n2, c2, rfl, hb2, hB2⟩
        rw [he]
        have He := hide he
        clear he
        have hB2' := hB1.trans (hB2.mono hs1)
        have hs2 := hB2'.size
        obtain ⟨i0, hi, hz0, hz1, hz2⟩ := info_parts info25
        obtain ⟨hs, hsl, hhl, hhr⟩ := h
        have hhn : hs.length = n := by rw [hhl]; exact hlen.out
        have Hhn := hide hhn
        clear hhn
        go_wp2_with fail
        go_loopw [7, 34] (fun v i wr => ∃ k : Nat, k ≤ n ∧ i = .int .i64 k ∧ wr.ownsRow w2.heap.size 25 1 v k ((hs.reverse.take k).map sv) ∧ Below w2.heap.size w2 wr)
          (fun _ i _ => n - (intOf i).toNat)
        case atStart => exact ⟨0, Nat.zero_le _, rfl, World.ownsRow_nil _ _ _ _, Below.refl _ _⟩
        case round =>
          obtain ⟨k, hk, rfl, hown, hBr⟩ := hrel
          have hszr := hBr.size
          by_cases hlt : k < n
          · obtain ⟨b, off, rfl, hbb, hc⟩ := hsl.at_ (by omega)
            have hki : n - 1 - k < hs.length := by have := Hhn.out; omega
            obtain ⟨⟨Ai, ni, ci⟩, hhi⟩ : ∃ x, x = hs[n - 1 - k] := ⟨_, rfl⟩
            have hci : wr.cell? ⟨b, off + (n - 1 - k), none⟩ = some (.slice Ai ni ci) := by
              refine (hBr.cell (p := ⟨b, off + (n - 1 - k), none⟩) (by show b < _; omega)).trans ((hB2'.cell (p := ⟨b, off + (n - 1 - k), none⟩) hbb).trans ?_)
              rw [hc _ (by simpa using hki)]
              simp only [List.getElem_map, ← hhi, sv]
            have Hhi := hide hhi
            clear hhi hc
            go_wp2_with (at_builtin; refine wpList_append_own _ rfl _ _ 22 rfl w2.heap.size 25 i0 (.slice none 0 0) 1 24 Try.underlying22 hi hz0 hz1 hz2 rfl (by decide) _ _ _ rfl (hown.alloc _) ⟨wr.heap.size, 0, none⟩ 1 1 [.slice Ai ni ci] rfl rfl (cell_one_new _ _ _) (by simp [Value.oneCell']) (by unfold maxLen; omega) (by omega) (by simp; omega) ?_; intro v' w3 hown' hgrow _)
            clear hi hz0 hz1 hz2
            go_roundw
            case rel =>
              refine ⟨k + 1, by omega, by simp, ?_, below_own (hBr.alloc hszr _) hgrow (by simp; omega) hown⟩
              have hrl : k < hs.reverse.length := by rw [List.length_reverse, Hhn.out]; exact hlt
              rw [take_snoc' _ k hrl, List.map_append]
              have : hs.reverse[k] = (Ai, ni, ci) := by
                rw [List.getElem_reverse]
                have e := Hhn.out
                have e2 : hs[hs.length - 1 - k]'(by omega) = hs[n - 1 - k] := by congr 1; omega
                rw [e2, ← Hhi.out]
              rw [this]
              exact hown'
            case measure => simp [intOf]; omega
          · obtain rfl : k = n := by omega
            clear hi hz0 hz1 hz2
            rw [List.take_of_length_le (by rw [List.length_reverse, Hhn.out]; exact Nat.le_refl _)] at hown
            have hBr' := hB2'.trans (hBr.mono hs2)
            have hrev : ∀ (i : Nat) (h : Option Addr × Nat × Nat) (ks : List UInt8), hs.reverse[i]? = some h → kss.reverse[i]? = some ks → Bs wr w.heap.size h.1 h.2.1 h.2.2 ks := by
              intro i h ks e1 e2
              have hi1 : i < hs.length := by
                rcases Nat.lt_or_ge i hs.length with h' | h'
                · exact h'
                · rw [List.getElem?_eq_none (by simpa using h')] at e1; cases e1
              rw [List.getElem?_reverse hi1] at e1
              rw [List.getElem?_reverse (by omega)] at e2
              exact (hhr (hs.length - 1 - i) h ks e1 (by rw [hhl]; exact e2)).below hBr'
            obtain ⟨VA, vc, rfl, hbk⟩ := bss_of_own (B := w.heap.size) (kss := kss.reverse) hown (by omega) hBr'.size (by simp [hhl]) hrev
            have hback := bytesOf_reverse per kss
            have cb := build_any kss.reverse VA k vc wr.heap.size per wr hbk (Nat.le_refl _) (by omega) hp0 hp1
            rw [hback, He.out] at cb
            have Cb := hide cb
            clear cb hback
            go_wp2_with fail
            refine Calls.mono Cb.out ?_
            rintro e w3 ⟨A3, n3, c3, rfl, hb3, hB3⟩
            have hB3' := hBr'.trans (hB3.mono hBr'.size)
            have hs3 := hB3'.size
            have hb2' := (hb2.below hBr).more hszr |>.below hB3
            have e2 := run_str (P := Try.prog) 25 5 9 Try.underlying25 Try.underlying5 Try.underlying9 hb2'
            have e3 := run_str (P := Try.prog) 25 5 9 Try.underlying25 Try.underlying5 Try.underlying9 hb3
            go_wp2_with fail
            clear e2 e3
            have hn2 : n2 ≤ 16777217 := by
              rw [← hb2.len]
              exact bytes_short per kss (by omega) (by omega) (by rw [hlen.out]; exact hn)
            go_loopw [70] (fun i wq => ∃ j : Nat, j ≤ k ∧ i = .int .i64 j ∧ Below w3.heap.size w3 wq) (fun i _ => k - (intOf i).toNat)
            case atStart => exact ⟨0, Nat.zero_le _, rfl, Below.refl _ _⟩
            case round =>
              obtain ⟨j, hj, rfl, hBq⟩ := hrel
              have hBq' := hB3'.trans (hBq.mono hs3)
              by_cases hjk : j < k
              · have hjl : j < kss.length := by rw [hlen.out]; exact hjk
                have hmem : kss[j] ∈ kss := List.getElem_mem hjl
                have hmay := may_keeps per kss kss[j] hmem (by rw [hlen.out]; exact He.out)
                obtain ⟨b, off, rfl, hbb, hc⟩ := (show Bss w w.heap.size A k c kss from ⟨hs, hsl, hhl, hhr⟩).at_ (by omega)
                obtain ⟨Ai, ni, ci, hci, hki⟩ := hc j hjl
                have hci' : wr.cell? ⟨b, off + j, none⟩ = some (.slice Ai ni ci) := (hBq'.cell (p := ⟨b, off + j, none⟩) hbb).trans hci
                have cm := may_any (bytesOf per kss) kss[j] A2 Ai n2 c2 ni ci w3.heap.size w.heap.size wr ((hb2'.more (hB3.size)).below hBq) hBq.size (hki.below hBq') hBq'.size hn2
                rw [hmay] at cm
                have Cm := hide cm
                clear cm hc hci
                go_wp2_with fail
                refine Calls.mono Cm.out ?_
                rintro e w5 ⟨rfl, hB5⟩
                go_wp2
                go_roundw
                case rel => exact ⟨j + 1, by omega, by simp, hBq.trans (hB5.mono hBq.size)⟩
                case measure => simp [intOf]; omega
              · obtain rfl : j = k := by omega
                go_wp2
                go_ret
                exact ⟨rfl, hBq'⟩

theorem keeps_row (kss : List (List UInt8)) (A : Option Addr) (n c : Nat) (per : Int) (w : World) (h : Bss w w.heap.size A n c kss) (_ : n ≤ 5864062014634) (hp0 : -9223372036854775808 ≤ per) (hp1 : per ≤ 9223372036854775807) (hu : n + (kss.map List.length).sum ≤ 1048576) :
    Calls Try.prog 5 #[.slice A n c, .int .i64 per] w fun e w' => e = .returned (.bool true) ∧ Below w.heap.size w w' :=
  keeps_any kss A n c per w h (by omega) hp0 hp1

end Go.Proofs.Ytkkjfehnkhhafaa
