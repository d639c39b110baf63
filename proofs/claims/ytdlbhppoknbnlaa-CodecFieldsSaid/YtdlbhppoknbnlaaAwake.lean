/-
  The walk of awake: it answers true. No condition.
-/
import Derived.Test.YtdlbhppoknbnlaaFields
import Derived.Lib.SlBytesConst
namespace Go.Proofs.Ytdlbhppoknbnlaa
open Go.RowKit Go.Shelf

theorem uvar_300 : uvar 300 = [172, 2] := by rw [uvar_ge (by decide), uvar_lt (by decide)]; rfl
theorem fieldsB_a : fieldsB [[97], []] = [2, 1, 97, 0] := by simp [fieldsB, uvar_lt]
theorem readU_300 : readU [172, 2] = .ok (300, 2) := by rfl
theorem readU_bad : readU [128, 0] = .error 21 := by rfl
theorem readU_5 : nxtU [5] 0 0 = (5, 1, 0) := by decide +kernel

theorem bs_lit (w : World) (ks : List UInt8) (n : Nat) (cs : Array Value) (hcs : cs = (ks.map b8).toArray) (hn : ks.length = n) (hr : n ≤ 140737488351232) : Bs (w.alloc (.cells cs 5)) (w.heap.size + 1) (some ⟨w.heap.size, 0, none⟩) n n ks := by
  subst hcs
  have := Sl.of_blk (Blk.new w 5 (ks.map b8).toArray) (n := n) (c := n) (by simpa using hn) (Nat.le_refl _) hr
  rw [World.size_alloc] at this
  exact this

theorem bs_one {w : World} {B g : Nat} {x : UInt8} (hc : w.cell? ⟨g, 0, none⟩ = some (.int .u8 (x.toNat : Int))) (hg : g < B) : Bs w B (some ⟨g, 0, none⟩) 1 1 [x] :=
  ⟨rfl, Nat.le_refl _, by omega, fun _ => ⟨g, 0, rfl, hg, fun j u hu => by
    match j, hu with
    | 0, hu => simp [b8] at hu; subst hu; simpa using hc⟩⟩
theorem bss_two {w : World} {B g1 g2 : Nat} {x : UInt8} (h1 : w.cell? ⟨g1, 0, none⟩ = some (.int .u8 (x.toNat : Int))) (h2 : w.cell? ⟨g2, 0, none⟩ = some (.slice (some ⟨g1, 0, none⟩) 1 1)) (h3 : w.cell? ⟨g2, 1, none⟩ = some (.slice none 0 0)) (hg1 : g1 < B) (hg2 : g2 < B) : Bss w B (some ⟨g2, 0, none⟩) 2 2 [[x], []] :=
  ⟨[(some ⟨g1, 0, none⟩, 1, 1), (none, 0, 0)], ⟨rfl, Nat.le_refl _, by omega, fun _ => ⟨g2, 0, rfl, hg2, fun j u hu => by
      match j, hu with
      | 0, hu => simp [sv] at hu; subst hu; simpa using h2
      | 1, hu => simp [sv] at hu; subst hu; simpa using h3⟩⟩, rfl, fun i h ks e1 e2 => by
    match i, e1, e2 with
    | 0, e1, e2 => simp at e1 e2; subst e1 e2; exact bs_one h1 hg1
    | 1, e1, e2 => simp at e1 e2; subst e1 e2; exact Bs.nil _ _ _ _⟩

set_option maxRecDepth 100000 in
set_option maxHeartbeats 4000000 in
theorem awake_any (w : World) : Calls Try.prog 9 #[] w fun e w' => e = .returned (.bool true) ∧ Below w.heap.size w w' := by
  have kc := fun (w : World) (C : Array Value) (n c : Nat) => Lib.run_convert_bytes_const (P := Try.prog) w 24 5 C n c Try.underlying24 Try.underlying5
  have kd : ∀ (w : World) (m : Nat) (C : Array Value) (n c : Nat), (convert 24 24 (.slice (some ⟨w.heap.size, 0, none⟩) n c)).run Try.prog ((w.drewN m).alloc (.cells C 5)) = .ok (.slice (some ⟨w.heap.size, 0, none⟩) n c) ((w.drewN m).alloc (.cells C 5 (C.size, C.size + 1))) := fun w m C n c => kc (w.drewN m) C n c
  go_enter Try.func9, Try.ntmps9
  go_wp2_with fail
  refine (uint_any 300 (by omega) w).mono ?_
  rintro e w1 ⟨v1, rfl, hm1, hB1⟩
  rw [uvar_300] at hm1
  obtain ⟨A1, L1, c1, rfl, hL1, hb1⟩ := Mine.bsL hm1 (by decide)
  obtain rfl : L1 = 2 := hL1
  clear hm1
  go_wp2_with fail
  refine (readu_any [172, 2] A1 2 c1 w1.heap.size w1 hb1 (Nat.le_refl _)).mono ?_
  rintro e w2 ⟨he, hB2⟩
  rw [readU_300] at he
  obtain rfl : e = _ := he
  have hBx := hB1.trans (hB2.mono hB1.size)
  clear hB1 hB2 hb1
  go_wp2_with fail
  refine (readu_any [128, 0] _ 2 2 (w2.heap.size + 1) _ (bs_lit w2 [128, 0] 2 _ rfl rfl (by omega)) (by simp)).mono ?_
  rintro e w3 ⟨he, hB3⟩
  rw [readU_bad] at he
  obtain rfl : e = _ := he
  have hBy := (hBx.alloc hBx.size _).trans (hB3.mono (by have := hBx.size; simp; omega))
  clear hB3 hBx
  go_wp2_with fail
  have k1 : ((w3.alloc (.cells #[.int .u8 97] 5 (1, 2))).alloc (.cells #[.slice (some ⟨w3.heap.size, 0, none⟩) 1 1, .slice none 0 0] 24)).cell? ⟨w3.heap.size, 0, none⟩ = some (.int .u8 ((97 : UInt8).toNat : Int)) :=
    Lib.cell?_alloc_marked _ (World.cell?_alloc_mark w3 #[.int .u8 97] 5 (1, 2) 0)
  have k2 : ∀ i, ((w3.alloc (.cells #[.int .u8 97] 5 (1, 2))).alloc (.cells #[.slice (some ⟨w3.heap.size, 0, none⟩) 1 1, .slice none 0 0] 24)).cell? ⟨w3.heap.size + 1, i, none⟩ = #[Value.slice (some ⟨w3.heap.size, 0, none⟩) 1 1, .slice none 0 0][i]? := by
    intro i
    have := World.cell?_alloc_mark (w3.alloc (.cells #[.int .u8 97] 5 (1, 2))) #[.slice (some ⟨w3.heap.size, 0, none⟩) 1 1, .slice none 0 0] 24 (0, 0) i
    rw [World.size_alloc] at this
    exact this
  have hss := bss_two (B := w3.heap.size + 1 + 1) k1 (k2 0) (k2 1) (by omega) (by omega)
  have hB4 := (hBy.alloc hBy.size (.cells #[.int .u8 97] 5 (1, 2))).alloc (by have := hBy.size; simp; omega) (.cells #[.slice (some ⟨w3.heap.size, 0, none⟩) 1 1, .slice none 0 0] 24)
  have hs4 : ((w3.alloc (.cells #[.int .u8 97] 5 (1, 2))).alloc (.cells #[.slice (some ⟨w3.heap.size, 0, none⟩) 1 1, .slice none 0 0] 24)).heap.size = w3.heap.size + 1 + 1 := by simp
  clear k1 k2 kc kd
  generalize (w3.alloc (.cells #[.int .u8 97] 5 (1, 2))).alloc (.cells #[.slice (some ⟨w3.heap.size, 0, none⟩) 1 1, .slice none 0 0] 24) = w4 at *
  rw [← hs4] at hss
  refine (fields_any [[97], []] _ 2 2 w4 hss (by omega) (by simp)).mono ?_
  rintro e w5 ⟨v5, rfl, hm5, hB5⟩
  rw [fieldsB_a] at hm5
  obtain ⟨A5, L5, c5, rfl, hL5, _⟩ := Mine.bsL hm5 (by decide)
  obtain rfl : L5 = 4 := hL5
  have hB6 := hB4.trans (hB5.mono hB4.size)
  clear hm5 hss hB5 hB4 hBy hs4
  go_wp2_with fail
  refine (new_any [5] _ 1 1 (w5.heap.size + 1) _ (bs_lit w5 [5] 1 _ rfl rfl (by omega)) (by simp)).mono ?_
  rintro e w6 ⟨R, A, c, rfl, hR, hr, hb, hB7⟩
  have hB8 := (hB6.alloc hB6.size (.cells #[.int .u8 5] 5)).trans (hB7.mono (by have := hB6.size; simp; omega))
  have hRw : w.heap.size ≤ R := by have := hB6.size; simp at hR; omega
  clear hB6 hB7
  have hRl := hr.lt
  go_wp2_with fail
  refine (ruint_any R 1 c 0 0 A [5] w6 hr hb (by omega)).mono ?_
  rintro e w7 ⟨hg, hr7, v, rfl, rfl⟩
  rw [readU_5] at *
  have hB9 := hB8.grown hg hB8.size (fun j e => by cases e; exact hRw)
  clear hr hb hB8 hg
  go_wp2_with fail
  refine (done_any R A 1 c _ _ w7 hr7).mono ?_
  rintro e w8 ⟨he, m, rfl⟩
  obtain rfl : e = .returned (.int .i64 0) := he
  go_wp2
  go_ret
  exact ⟨rfl, Below.drewN' hB9 m⟩

end Go.Proofs.Ytdlbhppoknbnlaa
