/-
  The walk of awake: it answers true. No condition.
-/
import Derived.Test.YtkkjfehnkhhafaaRefBuild
import Derived.Lib.SlBytesConst
namespace Go.Proofs.Ytkkjfehnkhhafaa
open Go.RowKit Go.Shelf

theorem hash_nil : hash [] = 3164544308 := by decide +kernel
theorem probes_10 : probesOf 10 = 6 := by decide
theorem err_0 : errOf 10 0 = 0 := by decide +kernel
theorem err_1 : errOf 10 1 = 0 := by decide +kernel
theorem bytes_0 : bytesOf 10 [] = [0, 0, 0, 0, 0, 0, 0, 0, 6] := by decide +kernel
theorem bytes_1_len : (bytesOf 10 [[97]]).length = 9 := by decide +kernel
theorem may_1 : mayOf (bytesOf 10 [[97]]) [97] = true := by decide +kernel


/-- Built, at a known number of bytes -/
theorem build_at (kss : List (List UInt8)) (A : Option Addr) (n c B : Nat) (per : Int) (err : Int) (bs : List UInt8) (m : Nat) (w : World) (h : Bss w B A n c kss) (hB : B ≤ w.heap.size) (hn : n ≤ 5864062014634) (hp0 : -9223372036854775808 ≤ per) (hp1 : per ≤ 9223372036854775807)
    (he : errOf per n = err) (hbs : bytesOf per kss = bs) (hm : bs.length = m) :
    Calls Try.prog 9 #[.slice A n c, .int .i64 per] w fun e w' => ∃ A c, e = .returned (.tuple #[.slice A m c, .int .i64 err]) ∧ Bs w' w'.heap.size A m c bs ∧ Below w.heap.size w w' := by
  refine (build_any kss A n c B per w h hB hn hp0 hp1).mono ?_
  rintro e w' ⟨A', n', c', rfl, hb, hw⟩
  rw [he, hbs] at *
  obtain rfl : m = n' := by rw [← hm]; exact hb.len
  exact ⟨A', c', rfl, hb, hw⟩

theorem bs_one {w : World} {B g : Nat} {x : UInt8} (hc : w.cell? ⟨g, 0, none⟩ = some (.int .u8 (x.toNat : Int))) (hg : g < B) : Bs w B (some ⟨g, 0, none⟩) 1 1 [x] :=
  ⟨rfl, Nat.le_refl _, by omega, fun _ => ⟨g, 0, rfl, hg, fun j u hu => by
    match j, hu with
    | 0, hu => simp [b8] at hu; subst hu; simpa using hc⟩⟩
theorem bss_one {w : World} {B g1 g2 : Nat} {x : UInt8} (h1 : w.cell? ⟨g1, 0, none⟩ = some (.int .u8 (x.toNat : Int))) (h2 : w.cell? ⟨g2, 0, none⟩ = some (.slice (some ⟨g1, 0, none⟩) 1 1)) (hg1 : g1 < B) (hg2 : g2 < B) : Bss w B (some ⟨g2, 0, none⟩) 1 1 [[x]] :=
  ⟨[(some ⟨g1, 0, none⟩, 1, 1)], ⟨rfl, Nat.le_refl _, by omega, fun _ => ⟨g2, 0, rfl, hg2, fun j u hu => by
      match j, hu with
      | 0, hu => simp [sv] at hu; subst hu; simpa using h2⟩⟩, rfl, fun i h ks e1 e2 => by
    match i, e1, e2 with
    | 0, e1, e2 => simp at e1 e2; subst e1 e2; exact bs_one h1 hg1⟩

set_option maxRecDepth 100000 in
set_option maxHeartbeats 4000000 in
theorem awake_any (w : World) : Calls Try.prog 7 #[] w fun e w' => e = .returned (.bool true) ∧ Below w.heap.size w w' := by
  have kc := fun (w : World) (C : Array Value) (n c : Nat) => Lib.run_convert_bytes_const (P := Try.prog) w 25 5 C n c Try.underlying25 Try.underlying5
  have kd : ∀ (w : World) (m : Nat) (C : Array Value) (n c : Nat), (convert 25 25 (.slice (some ⟨w.heap.size, 0, none⟩) n c)).run Try.prog ((w.drewN m).alloc (.cells C 5)) = .ok (.slice (some ⟨w.heap.size, 0, none⟩) n c) ((w.drewN m).alloc (.cells C 5 (C.size, C.size + 1))) := fun w m C n c => kc (w.drewN m) C n c
  go_enter Try.func7, Try.ntmps7
  go_wp2_with fail
  refine (build_at [] none 0 0 w.heap.size 10 0 _ 9 w (Bss.nil _ _ _ _) (Nat.le_refl _) (by omega) (by omega) (by omega) err_0 bytes_0 rfl).mono ?_
  rintro e w1 ⟨A1, c1, rfl, hb1, hB1⟩
  go_wp2_with fail
  have k1 : ((w1.alloc (.cells #[.int .u8 97] 5 (1, 2))).alloc (.cells #[.slice (some ⟨w1.heap.size, 0, none⟩) 1 1] 25)).cell? ⟨w1.heap.size, 0, none⟩ = some (.int .u8 ((97 : UInt8).toNat : Int)) :=
    Lib.cell?_alloc_marked _ (World.cell?_alloc_mark w1 #[.int .u8 97] 5 (1, 2) 0)
  have k2 : ((w1.alloc (.cells #[.int .u8 97] 5 (1, 2))).alloc (.cells #[.slice (some ⟨w1.heap.size, 0, none⟩) 1 1] 25)).cell? ⟨w1.heap.size + 1, 0, none⟩ = some (.slice (some ⟨w1.heap.size, 0, none⟩) 1 1) := by
    have := World.cell?_alloc_mark (w1.alloc (.cells #[.int .u8 97] 5 (1, 2))) #[.slice (some ⟨w1.heap.size, 0, none⟩) 1 1] 25 (0, 0) 0
    rw [World.size_alloc] at this
    exact this
  obtain ⟨F, hF⟩ : ∃ F, F = bytesOf 10 [[97]] := ⟨_, rfl⟩
  have hm := may_1
  have hFl := bytes_1_len
  rw [← hF] at hm hFl
  refine (build_at [[97]] _ 1 1 (w1.heap.size + 1 + 1) 10 0 F 9 _ (bss_one k1 k2 (by omega) (by omega)) (by simp) (by omega) (by omega) (by omega) err_1 hF.symm hFl).mono ?_
  rintro e w2 ⟨A2, c2, rfl, hb2, hB2⟩
  have hB1' : Below w.heap.size w w2 := (((hB1.alloc hB1.size _).alloc (by have := hB1.size; simp; omega) _)).trans (hB2.mono (by have := hB1.size; simp; omega))
  have hb1' : Bs w2 w1.heap.size A1 9 c1 [0, 0, 0, 0, 0, 0, 0, 0, 6] := ((hb1.alloc (Nat.le_refl _) _).alloc (by simp) _).below (hB2.mono (by simp; omega))
  clear k1 k2 hB1 hB2 hb1
  have Hm := hide hm
  clear hm hF hFl
  obtain ⟨b, off, rfl, hbb, hc⟩ := hb1'.at_ (by omega)
  have c8 := hc 8 (by decide)
  have c8' : w2.cell? ⟨b, off + 8, none⟩ = some (.int .u8 6) := c8
  clear c8 hc
  go_wp2_with fail
  refine (hash_any [] none 0 0 w2.heap.size w2 (Bs.nil _ _ _ _)).mono ?_
  rintro e w3 ⟨he, m3, rfl⟩
  rw [hash_nil] at he
  subst he
  go_wp2_with fail
  refine (probes_any 10 _ (by omega) (by omega)).mono ?_
  rintro e w3 ⟨he, rfl⟩
  rw [probes_10] at he
  subst he
  go_wp2_with fail
  have k3 : ((w2.drewN m3).alloc (.cells #[.int .u8 97] 5 (1, 2))).cell? ⟨w2.heap.size, 0, none⟩ = some (.int .u8 ((97 : UInt8).toNat : Int)) := World.cell?_alloc_mark (w2.drewN m3) #[.int .u8 97] 5 (1, 2) 0
  refine (may_any F [97] A2 _ 9 c2 1 1 w2.heap.size (w2.heap.size + 1) _ ((hb2.drewN m3).alloc (Nat.le_refl _) _) (by simp) (bs_one k3 (by omega)) (by simp) (by omega)).mono ?_
  rintro e w4 ⟨he, hB4⟩
  rw [Hm.out] at he
  subst he
  go_wp2
  go_ret
  refine ⟨rfl, hB1'.trans ((((Below.refl w2.heap.size w2).trans (⟨rfl, rfl, rfl, Nat.le_refl _, fun _ _ => rfl⟩ : Below w2.heap.size w2 (w2.drewN m3))).alloc (Nat.le_refl _) _ |>.trans (hB4.mono (by simp))).mono hB1'.size)⟩

end Go.Proofs.Ytkkjfehnkhhafaa
