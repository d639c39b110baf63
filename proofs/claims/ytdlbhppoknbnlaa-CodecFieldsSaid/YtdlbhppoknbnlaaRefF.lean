/-
  The walks of the reference's Field and Fields. Condition: the bytes (the list) read as such, no longer than is allowed.
-/
import Derived.Test.YtdlbhppoknbnlaaEach
namespace Go.Proofs.Ytdlbhppoknbnlaa
open Go.RowKit

set_option maxRecDepth 100000 in
set_option maxHeartbeats 1000000 in
theorem reffield_any (ks : List UInt8) (A : Option Addr) (n c B : Nat) (w : World) (h : Bs w B A n c ks) (hB : B ≤ w.heap.size) (hn : n ≤ 1048576) :
    Calls Try.prog 69 #[.slice A n c] w (GivesE w 0 (uvar n ++ ks)) := by
  have hl := h.len
  have hn' : ¬ (1048576 : Int) < (n : Int) := by omega
  have hle := uvar_len10 n (by omega)
  go_enter Try.func69, Try.ntmps69
  go_wp2_with fail
  refine (refuint_any n (by omega) w).mono ?_
  rintro e w1 ⟨v, rfl, hm, hB1⟩
  have hs := hB1.size
  obtain ⟨v', w3, hrun, hm3, hg, _⟩ := append_mine (P := Try.prog) 24 Try.underlying24 info5 hm hs ((h.more hB).below hB1) (by omega)
  have hB3 := hB1.trans (hm.grown hg (Nat.le_refl _) hs)
  obtain ⟨MA, mc, rfl, _⟩ := Mine.bs hm (by omega)
  clear hm
  go_wp2_with (at_builtin; refine wpList_append_run rfl _ _ 24 rfl _ _ _ rfl rfl hrun ?_)
  go_wp2
  go_ret2
  exact ⟨v', rfl, hm3, hB3⟩

theorem encF_snoc (fs : List (List UInt8)) (i : Nat) (hi : i < fs.length) : encF (fs.take (i + 1)) = encF (fs.take i) ++ (uvar fs[i].length ++ fs[i]) := by
  have h : fs.take (i + 1) = fs.take i ++ [fs[i]] := by rw [List.take_add_one, List.getElem?_eq_getElem hi]; rfl
  rw [h]
  simp only [encF, List.map_append, List.map_cons, List.map_nil, List.flatten_append, List.flatten_cons, List.flatten_nil, List.append_nil]
theorem encF_bound (fs : List (List UInt8)) (hf : ∀ f ∈ fs, f.length ≤ 1048576) : (encF fs).length ≤ fs.length * 1048586 := by
  induction fs with
  | nil => simp [encF]
  | cons f r ih =>
    have h1 := hf f (List.mem_cons_self ..)
    have h2 := uvar_len10 f.length (by omega)
    have h3 := ih fun x hx => hf x (List.mem_cons_of_mem _ hx)
    simp only [encF, List.map_cons, List.flatten_cons, List.length_append, List.length_cons] at *
    omega

set_option maxRecDepth 100000 in
set_option maxHeartbeats 2000000 in
theorem reffields_any (kss : List (List UInt8)) (A : Option Addr) (n c : Nat) (w : World) (h : Bss w w.heap.size A n c kss) (hn : n ≤ 65536) (hks : ∀ ks ∈ kss, ks.length ≤ 1048576) :
    Calls Try.prog 37 #[.slice A n c] w (GivesE w 0 (fieldsB kss)) := by
  have hlen := h.len
  have hn' : ¬ (65536 : Int) < (n : Int) := by omega
  have hu := uvar_len10 n (by omega)
  have hF := hide (show fieldsB kss = uvar n ++ encF kss by rw [← hlen]; rfl)
  have hlen' := hide hlen
  clear hlen
  go_enter Try.func37, Try.ntmps37
  go_wp2_with fail
  refine (refuint_any n (by omega) w).mono ?_
  rintro e w1 ⟨v, rfl, hm, hB1⟩
  go_wp2
  go_loopw [4, 5] (fun t4 t5 wq => ∃ i : Nat, i ≤ n ∧ t5 = .int .i64 (i : Int) ∧ Mine 5 wq w.heap.size t4 (uvar n ++ encF (kss.take i)) ∧ Below w.heap.size w wq) (fun _ t5 _ => n - (intOf t5).toNat)
  case atStart => exact ⟨0, by omega, rfl, by simpa [encF] using hm, hB1⟩
  case round =>
    obtain ⟨i, hi, rfl, hmi, hBr⟩ := hrel
    have hs := hBr.size
    by_cases hlt : i < n
    · have hif : i < kss.length := by rw [hlen'.out]; exact hlt
      obtain ⟨b1, o1, rfl, hb1, hc1⟩ := (h.below hBr).at_ (by omega)
      obtain ⟨X1, n1, d1, k1, s1⟩ := hc1 i hif
      have hfl := hks kss[i] (List.getElem_mem hif)
      have hb := encF_bound (kss.take i) (fun f hf => hks f (List.mem_of_mem_take hf))
      rw [List.length_take, hlen'.out] at hb
      have hsn := encF_snoc kss i hif
      have hl1 := s1.len
      have hcall := hide (reffield_any kss[i] X1 n1 d1 w.heap.size wr s1 hs (by omega))
      have hu1 := uvar_len10 n1 (by omega)
      clear hc1
      go_wp2_with fail
      refine (hcall.out).mono ?_
      rintro e w2 ⟨v2, rfl, hm2, hB2⟩
      have hs2 := hB2.size
      obtain ⟨A2, L2, c2, rfl, hL2, hb2⟩ := Mine.bsL hm2 (by rw [List.length_append]; omega)
      rw [List.length_append] at hL2
      obtain ⟨v3, w3, hrun, hm3, hg3, _⟩ := append_mine (P := Try.prog) 24 Try.underlying24 info5 (hmi.below hB2 (Nat.le_refl _)) (by omega) hb2 (by rw [List.length_append]; omega)
      have hB3 : Below w.heap.size w w3 := (hBr.trans (hB2.mono hs)).trans ((hmi.below hB2 (Nat.le_refl _)).grown hg3 (Nat.le_refl _) (by omega))
      clear hL2
      go_wp2_with (at_builtin; refine wpList_append_run rfl _ _ 24 rfl _ _ _ rfl rfl hrun ?_)
      go_roundw
      case rel => exact ⟨i + 1, by omega, by simp, by rw [hsn, hl1, ← List.append_assoc]; exact hm3, hB3⟩
      case measure => simp [intOf]; omega
    · obtain rfl : i = n := by omega
      rw [List.take_of_length_le (by rw [hlen'.out]; exact Nat.le_refl _), ← hF.out] at hmi
      go_wp2
      go_ret2
      exact ⟨_, rfl, hmi, hBr⟩

end Go.Proofs.Ytdlbhppoknbnlaa
