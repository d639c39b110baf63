/-
  The walk of the document's Put: the pair lies in its table, nothing but the table and its list of values has turned. Condition: the document's table lies in memory and is not sealed; the towers read as numbers. (The drawn regions printed by gen_rput.py.)
-/
import Derived.Test.YtkbjbjkgohkkjaaRRow
namespace Go.Proofs.Ytkbjbjkgohkkjaa
open Go.RowKit Go.Shelf

theorem info9 : (Try.prog.info? 9).map (fun i => (i.zero, i.size, i.bytes)) = some (some (.string .empty), 1, 16) := by kernel_rfl

/-- two rows that lie in two blocks -/
def Sep (a b : Value) : Prop := a.ownBlock = none ∨ a.ownBlock ≠ b.ownBlock

/-- what the document's Put does -/
structure RDid (w : World) (R base : Nat) (tw vv : Value) (tws : List Int) (ns : List Nd) (cnt : Nat) (k v : Key) (e : Ending) (w' : World) : Prop where
  ok : e = .returned (.int .i64 0)
  rt : ∃ kv' vv' tv', Rt w' R base tw kv' vv' tv' (putN ns k v (towN tws ns.length)) (cnt + cntN ns k) ∧ Sep kv' vv' ∧ ∀ g, vv'.ownBlock = some g → vv.ownBlock = some g ∨ w.heap.size ≤ g
  moved : Moved (fun g => g = R ∨ vv.ownBlock = some g) w w'

/-- a row that is no table stays when the table is written -/
theorem row_tab {W : World} {R base t s n : Nat} {v : Value} {xs : List Value} {cs : Array Value} (hb : Blk W R 72 cs) (ht : t ≠ 72) (h : W.ownsRow base t s v n xs) (i : Nat) (u : Value) : (W.setCell ⟨R, i, none⟩ u).ownsRow base t s v n xs :=
  of_heapG h (fun g hg => Below.heap_setCell W _ _ g (fun e => by
    obtain ⟨cs', r, h3⟩ := ownG h hg
    have e' : g = R := e
    subst e'
    have := h3.symm.trans hb
    injection this with this
    injection this with _ e2 _
    exact ht e2))
theorem row_below {W W' : World} {B base t s n : Nat} {v : Value} {xs : List Value} (hb : Below B W W') (hB : W.heap.size ≤ B) (h : W.ownsRow base t s v n xs) : W'.ownsRow base t s v n xs :=
  of_heapG h (fun g hg => hb.block g (by have := (owns_ltG h hg).2; omega))

/-- a list of the table with a new element: the run's facts, and what lies there behind it -/
theorem list_ins {t e : TypeId} {z : Value} {bytes : Nat} (ht : Try.prog.underlying t = some (.slice e)) (hinfo : (Try.prog.info? e).map (fun i => (i.zero, i.size, i.bytes)) = some (some z, 1, bytes)) (hzc : z.cells.size = 1) (hby : bytes ≤ 16)
    (hs : ∀ w : World, (sizeOf e).run Try.prog w = .ok 1 w)
    {W : World} {R base n : Nat} {cs : Array Value} {V : Value} {xs : List Value} (hb : Blk W R 72 cs) (f : Nat) (hf : cs[f]? = some V) (h : W.ownsRow base e 1 V n xs) (hbase : base ≤ W.heap.size) {i : Nat} (hi : i ≤ n) (u : Value) (hu : u.oneCell' = true) (h1 : ∀ x ∈ xs, x.oneCell' = true) (hn : n ≤ 1000000) :
    ∃ A c A2 m2 c2 w2 A3 m3 c3 w3, V = .slice A n c ∧ W.drew.cell? ⟨R, f, none⟩ = some (.slice A n c) ∧
      (∀ w : World, (Instr.slice t (.slice A n c) none (some (.int .i64 (i : Int))) (some (.int .i64 (i : Int)))).run Try.prog w = .ok (.slice A i i) w) ∧
      (∀ w : World, (Instr.slice t (.slice A n c) (some (.int .i64 (i : Int))) none none).run Try.prog w = .ok (.slice (cutA A i c) (n - i) (c - i)) w) ∧
      (Builtin.append_ #[t, t] t #[.slice (some ⟨W.heap.size, 0, none⟩) 1 1, .slice (cutA A i c) (n - i) (c - i)]).run Try.prog (W.drew.alloc (.cells #[u] e)) = .ok (.slice A2 m2 c2) w2 ∧
      (Builtin.append_ #[t, t] t #[.slice A i i, .slice A2 m2 c2]).run Try.prog w2 = .ok (.slice A3 m3 c3) w3 ∧
      (W.drew.alloc (.cells #[u] e)).cell? ⟨R, f, none⟩ = some (.slice A n c) ∧ w2.cell? ⟨R, f, none⟩ = some (.slice A n c) ∧ w3.cell? ⟨R, f, none⟩ = some (.slice A n c) ∧ w3.frozen? ⟨R, f, none⟩ = false ∧
      Blk (w3.setCell ⟨R, f, none⟩ (.slice A3 m3 c3)) R 72 (cs.setIfInBounds f (.slice A3 m3 c3)) ∧
      (e ≠ 72 → (w3.setCell ⟨R, f, none⟩ (.slice A3 m3 c3)).ownsRow base e 1 (.slice A3 m3 c3) (n + 1) (xs.take i ++ u :: xs.drop i)) ∧
      (∀ (t' s' n' : Nat) (v' : Value) (xs' : List Value), t' ≠ 72 → W.ownsRow base t' s' v' n' xs' → (w3.setCell ⟨R, f, none⟩ (.slice A3 m3 c3)).ownsRow base t' s' v' n' xs') ∧
      Moved (fun g => g = R) W (w3.setCell ⟨R, f, none⟩ (.slice A3 m3 c3)) ∧ base ≤ (w3.setCell ⟨R, f, none⟩ (.slice A3 m3 c3)).heap.size ∧ (∀ g, (Value.slice A3 m3 c3).ownBlock = some g → W.heap.size ≤ g) := by
  obtain ⟨A, c, v2, w2, v3, w3, rfl, hnc, hA, hr2, hr3, ho3, hB1, hB2, hB3, ⟨a2, m2, c2, rfl⟩, ⟨g3, m3, c3, rfl, hg3⟩⟩ := ins_row (P := Try.prog) t ht hinfo hzc hby (w := W.drew) h hbase hi u hu h1 hn
  have hb3 : Blk w3 R 72 cs := Blk.below (w := W.drew) hb hB3 hb.lt
  have hcell : W.drew.cell? ⟨R, f, none⟩ = some (.slice A n c) := (hb.cell f).trans hf
  have hc3 := run_cut3 (P := Try.prog) t e ht hs A n c .i64 .i64 (i : Int) (by omega) (by omega) hA
  have hc1 := run_cut (P := Try.prog) t e ht hs A n c .i64 (i : Int) (by omega) (by omega)
  rw [Int.toNat_natCast] at hc3 hc1
  have hs3 : W.heap.size ≤ w3.heap.size := hB3.size
  refine ⟨A, c, _, m2, c2, w2, _, m3, c3, w3, rfl, hcell, hc3, hc1, hr2, hr3, (hB1.cell (p := ⟨R, f, none⟩) hb.lt).trans hcell, (hB2.cell (p := ⟨R, f, none⟩) hb.lt).trans hcell, (hB3.cell (p := ⟨R, f, none⟩) hb.lt).trans hcell, hb3.frozen f, hb3.put f _, fun he => row_tab hb3 he ho3 _ _,
    fun t' s' n' v' xs' hne hr => row_tab hb3 hne (row_below (W := W.drew) hB3 (Nat.le_refl _) hr) _ _, ?_, by simp; omega, fun g e => by injection e with e; simp only at e; subst e; exact hg3⟩
  exact Moved.set (P := fun g => g = R) (p := ⟨R, f, none⟩) (Moved.of_below ((below_drew W).trans hB3) (Nat.le_refl _)) (.inr rfl) _

theorem strV_one (ks : List (List UInt8)) : ∀ x ∈ ks.map strV, x.oneCell' = true := fun x hx => by
  obtain ⟨k, _, rfl⟩ := List.mem_map.1 hx
  rfl
theorem iv_one (zs : List Int) : ∀ x ∈ zs.map iv, x.oneCell' = true := fun x hx => by
  obtain ⟨k, _, rfl⟩ := List.mem_map.1 hx
  rfl
theorem Rt.parts {w : World} {R base : Nat} {tw kv vv tv : Value} {ns : List Nd} {cnt : Nat} (h : Rt w R base tw kv vv tv ns cnt) :
    w.ownsRow base 9 1 kv ns.length (ns.map fun d => strV d.k) ∧ w.ownsRow base 9 1 vv ns.length (ns.map fun d => strV d.v) ∧ w.ownsRow base 3 1 tv ns.length (ns.map fun d => iv (d.t : Int)) := by
  have h1 := h.keys
  have h2 := h.vals
  have h3 := h.tall
  unfold MineS at h1 h2
  unfold MineI at h3
  rw [List.length_map, List.map_map] at h1 h2 h3
  exact ⟨h1, h2, h3⟩
theorem Rt.of_parts {w : World} {R base : Nat} {tw kv vv tv : Value} {ns : List Nd} {cnt : Nat} (hb : Blk w R 72 #[tw, kv, vv, tv, .int .i64 (ns.length : Int), .int .i64 (cnt : Int), .bool false])
    (h1 : w.ownsRow base 9 1 kv ns.length (ns.map fun d => strV d.k)) (h2 : w.ownsRow base 9 1 vv ns.length (ns.map fun d => strV d.v)) (h3 : w.ownsRow base 3 1 tv ns.length (ns.map fun d => iv (d.t : Int))) : Rt w R base tw kv vv tv ns cnt := by
  refine ⟨hb, ?_, ?_, ?_⟩
  · unfold MineS; rw [List.length_map, List.map_map]; exact h1
  · unfold MineS; rw [List.length_map, List.map_map]; exact h2
  · unfold MineI; rw [List.length_map, List.map_map]; exact h3

/-- a value put at a place -/
theorem Rt.set {w : World} {R base : Nat} {tw kv tv : Value} {ns : List Nd} {cnt : Nat} {b c n : Nat} (h : Rt w R base tw kv (.slice (some ⟨b, 0, none⟩) n c) tv ns cnt) (hn : n = ns.length) (hsep : Sep kv (.slice (some ⟨b, 0, none⟩) n c)) (i : Nat) (v : Key) :
    Rt (w.setCell ⟨b, i, none⟩ (strV v)) R base tw kv (.slice (some ⟨b, 0, none⟩) n c) tv (setN ns i v) cnt := by
  subst hn
  have hk : ¬ kv.ownBlock = some b := fun e => by
    rcases hsep with h0 | h0
    · rw [e] at h0; cases h0
    · exact h0 (by rw [e]; rfl)
  obtain ⟨h1, h2, h3⟩ := h.parts
  obtain ⟨csb, rb, hbb⟩ := ownG h2 (g := b) rfl
  have hbR : R ≠ b := fun e => by
    subst e
    have := hbb.symm.trans h.tab
    injection this with this
    injection this with _ e2 _
    cases e2
  have hst := (World.ownsRow.stored h2 i (strV v)).1
  refine Rt.of_parts ?_ ?_ ?_ ?_
  · rw [setN_len]; exact h.tab.far (p := ⟨b, i, none⟩) (by simpa using hbR) _
  · have e1 : ((setN ns i v).map fun d => strV d.k) = ns.map fun d => strV d.k := by
      have := congrArg (List.map strV) (setN_k ns i v)
      rwa [List.map_map, List.map_map] at this
    rw [setN_len, e1]
    exact of_heapG h1 (fun g hg => Below.heap_setCell w _ _ g (fun e => hk (by rw [hg]; exact congrArg some e)))
  · have e1 : ((setN ns i v).map fun d => strV d.v) = (ns.map fun d => strV d.v).set i (strV v) := by
      have := congrArg (List.map strV) (setN_v ns i v)
      rw [List.map_map, List.map_set, List.map_map] at this
      exact this
    rw [setN_len, e1]
    exact hst
  · have e1 : ((setN ns i v).map fun d => iv (d.t : Int)) = ns.map fun d => iv (d.t : Int) := by
      have := congrArg (List.map fun t : Nat => iv (t : Int)) (setN_t ns i v)
      rwa [List.map_map, List.map_map] at this
    rw [setN_len, e1]
    refine of_heapG h3 (fun g hg => Below.heap_setCell w _ _ g (fun e => ?_))
    obtain ⟨cs', r', h4⟩ := ownG h3 hg
    have e' : g = b := e
    subst e'
    have := h4.symm.trans hbb
    injection this with this
    injection this with _ e2 _
    cases e2

set_option maxRecDepth 100000 in
set_option maxHeartbeats 8000000 in
theorem rput_any (R base : Nat) (kv vv tv : Value) (tws : List Int) (TA : Option Addr) (tn tc' : Nat) (ns : List Nd) (cnt : Nat) (k v : Key) (w : World) (h : Rt w R base (.slice TA tn tc') kv vv tv ns cnt) (hsep : Sep kv vv) (hbase : base ≤ w.heap.size)
    (htw : Sl w w.heap.size TA tn tc' (tws.map iv)) (hTA : 0 < tn → ∀ a, TA = some a → a.block ≠ R) (htl : tn ≤ 1000000) (hz : ∀ z ∈ tws, -9223372036854775808 ≤ z ∧ z ≤ 9223372036854775807)
    (hn : ns.length ≤ 100000) (ht : ∀ d ∈ ns, 1 ≤ d.t ∧ d.t ≤ 12) (ho : Ordered ns) (hc : cnt + cntN ns k ≤ 4611686018427387904) :
    Calls Try.prog 43 #[.pointer (some ⟨R, 0, none⟩), strV k, strV v] w (RDid w R base (.slice TA tn tc') vv tws ns cnt k v) := by
  have hs := hide (rsearch_any R base _ kv vv tv ns cnt k w h (by omega) ht ho hc)
  have hf := hide (fun (W : World) (hr : Rt W R base (.slice TA tn tc') kv vv tv ns (cnt + cntN ns k)) => find_any R base _ kv vv tv ns _ k W hr (by omega))
  have k6 : w.cell? ⟨R, 6, none⟩ = some (.bool false) := h.tab.cell 6
  have Hle := hide (fnd_le ns k)
  have Htw := hide htw
  have HTA := hide hTA
  have Hz := hide hz
  have Hbase := hide hbase
  have Hsep := hide hsep
  have Hput := hide (putN_is (ns := ns) (k := k) (v := v) (t := towN tws ns.length))
  clear htw hTA hz h ht ho hsep hbase
  unfold strV at hs hf ⊢
  go_enter Try.func43, Try.ntmps43
  go_wp2_with fail
  refine hs.out.mono ?_
  rintro e w1 ⟨⟨v0, rfl⟩, hr1, hg1⟩
  go_wp2_with fail
  refine (hf.out w1 hr1).mono ?_
  rintro e w2 ⟨rfl, m, rfl⟩
  have hr2 := hr1.drewN m
  have hg2 : w.grownBy (w1.drewN m) (some R) := ⟨hg1.os, hg1.tape, hg1.output, hg1.size, hg1.block⟩
  generalize w1.drewN m = w2 at *
  have Hg2 := hide hg2
  have Hr2 := hide hr2
  clear hr1 hg1 hr2 hg2 hs hf k6
  by_cases his : isN ns k = true
  · obtain ⟨hl, hk, -⟩ := isN_true his
    have Hput' := hide (Hput.out.trans (if_pos his))
    obtain ⟨B, c, rfl, hcs⟩ := Hr2.out.vslice
    obtain ⟨b, rfl, kc⟩ := hcs _ hl
    have c2 : w2.cell? ⟨R, 2, none⟩ = some (.slice (some ⟨b, 0, none⟩) ns.length c) := Hr2.out.tab.cell 2
    have hfz : w2.frozen? ⟨b, fnd ns k, none⟩ = false := by
      rcases Hr2.out.vals.2 with ⟨e, _⟩ | ⟨g, cap, cur, e, _, hh, _⟩
      · cases e
      · injection e with e _ _
        injection e with e
        injection e with e _ _
        subst e
        exact Blk.frozen hh _
    unfold strV at kc
    have i0 : (0 : Int) ≤ (fnd ns k : Int) := by omega
    have i1 : (fnd ns k : Int) < (ns.length : Int) := by omega
    rw [his]
    clear hcs hk hn
    go_wp2
    go_ret
    have hset := Hr2.out.set rfl Hsep.out (fnd ns k) v
    refine ⟨rfl, ⟨kv, _, tv, ?_, Hsep.out, fun g hg => .inl hg⟩, ?_⟩
    · rw [Hput'.out]; exact hset
    · exact Moved.set (Moved.of_grown Hg2.out (.inl rfl)) (.inr (.inr rfl)) _
  · have his' : isN ns k = false := Bool.eq_false_iff.2 his
    have Hput' := hide (Hput.out.trans (if_neg his))
    rw [his']
    obtain ⟨N, hN⟩ : ∃ N, ns.length = N := ⟨_, rfl⟩
    obtain ⟨F, hF⟩ : ∃ F, fnd ns k = F := ⟨_, rfl⟩
    have HN := hide hN
    have HF := hide hF
    obtain ⟨C, hC⟩ : ∃ C, cnt + cntN ns k = C := ⟨_, rfl⟩
    have HC := hide hC
    have q0 : w2.cell? ⟨R, 0, none⟩ = some (.slice TA tn tc') := Hr2.out.tab.cell 0
    have q4 : w2.cell? ⟨R, 4, none⟩ = some (.int .i64 (N : Int)) := by rw [← hN]; exact Hr2.out.tab.cell 4
    have q4f := Hr2.out.tab.frozen 4
    have hFN : F ≤ N := by have := Hle.out; omega
    rw [hN] at hn Hput'
    rw [hF] at Hput' ⊢
    clear hN hF hC his hc Hput
    have hwN : IntKind.i64.wrap ((N : Int) + 1) = (N : Int) + 1 := by simp [IntKind.wrap, IntKind.bits, IntKind.signed]; omega
    obtain ⟨N1, hN1⟩ : ∃ N1, (N : Int) + 1 = N1 := ⟨_, rfl⟩
    rw [hN1] at hwN
    have HN1 := hide hN1
    by_cases h0 : 0 < tn
    · have htl2 := Htw.out.len
      rw [List.length_map] at htl2
      have hlt := Nat.mod_lt N h0
      obtain ⟨b, off, rfl, hbl, hcc⟩ := Htw.out.at_ h0
      have hbR : b ≠ R := HTA.out h0 _ rfl
      have hcz : w2.cell? ⟨b, off + N % tn, none⟩ = some (.int .i64 (tws[N % tn]'(by omega))) := by
        have := hcc (N % tn) (by rw [List.length_map]; omega)
        rw [List.getElem_map] at this
        exact (World.cell?_of_block (w := w) (Hg2.out.block b hbl (fun e => by injection e with e; exact hbR e))).trans this
      have e1 : towN tws N = (min (max (tws[N % tn]'(by omega)) 1) 12).toNat := by
        unfold towN
        rw [dif_pos (by omega)]
        simp only [htl2]
      have hbz := Hz.out _ (List.getElem_mem (show N % tn < tws.length by omega))
      obtain ⟨tz, htz⟩ : ∃ tz, towN tws N = tz := ⟨_, rfl⟩
      have Htz := hide htz
      rw [htz] at e1 Hput'
      generalize (tws[N % tn]'(by omega)) = z at *
      have hem : (tz : Int) = min (max z 1) 12 := by omega
      have htzb : 1 ≤ tz ∧ tz ≤ 12 := by omega
      have Hem := hide hem
      have Htzb := hide htzb
      have hmod2 : (N : Int) % (tn : Int) = ((N % tn : Nat) : Int) := by omega
      have hmod : ((N : Int)).tmod (tn : Int) = ((N % tn : Nat) : Int) := by
        rw [Int.tmod_eq_emod_of_nonneg (by omega)]
        rfl
      have i2 : ¬ tn = 0 := by omega
      obtain ⟨r, hr'⟩ : ∃ r, N % tn = r := ⟨_, rfl⟩
      rw [hr'] at hmod hmod2 hcz hlt
      have j0 : (0 : Int) ≤ (r : Int) := by omega
      have j1 : (r : Int) < (tn : Int) := by omega
      have hSS : w2.drew.cell? ⟨R, 0, none⟩ = some (.slice (some ⟨b, off, none⟩) tn tc') ∧ w2.drew.cell? ⟨R, 4, none⟩ = some (.int .i64 (N : Int)) ∧ w2.drew.cell? ⟨b, off + r, none⟩ = some (.int .i64 z) := ⟨q0, q4, hcz⟩
      clear hr' htz e1 hem htzb hcc htl2
      go_wp2
      refine wp_region_held_drew (S := fun W' => W'.cell? ⟨R, 0, none⟩ = some (.slice (some ⟨b, off, none⟩) tn tc') ∧ W'.cell? ⟨R, 4, none⟩ = some (.int .i64 (N : Int)) ∧ W'.cell? ⟨b, off + r, none⟩ = some (.int .i64 z)) (by kernel_rfl) (hSS) (fun hHeld => ?_)
      refine wpAnyH_take (i := 0) (v := ?_) rfl (by kernel_rfl) (by kernel_rfl) (by kernel_rfl) (fun _ _ _ h => h) (Or.inl ⟨by kernel_rfl, ?_⟩) (by assumption) ?_
      rotate_left
      · (intro w hSw; (try dsimp only at hSw); go_simp; try with_reducible rfl)
      (try simp only [Act.put, List.getElem_toArray, List.getElem_cons_succ, List.getElem_cons_zero, List.setIfInBounds_toArray, List.set_cons_zero, List.set_cons_succ])
      refine wpAnyH_take (i := 1) (v := ?_) rfl (by kernel_rfl) (by kernel_rfl) (by kernel_rfl) (fun _ _ _ h => h) (Or.inl ⟨by kernel_rfl, ?_⟩) (by assumption) ?_
      rotate_left
      · (intro w hSw; (try dsimp only at hSw); go_simp; try with_reducible rfl)
      (try simp only [Act.put, List.getElem_toArray, List.getElem_cons_succ, List.getElem_cons_zero, List.setIfInBounds_toArray, List.set_cons_zero, List.set_cons_succ])
      refine wpAnyH_take (i := 2) (v := ?_) rfl (by kernel_rfl) (by kernel_rfl) (by kernel_rfl) (fun _ _ _ h => h) (Or.inl ⟨by kernel_rfl, ?_⟩) (by assumption) ?_
      rotate_left
      · (intro w hSw; (try dsimp only at hSw); go_simp; try with_reducible rfl)
      (try simp only [Act.put, List.getElem_toArray, List.getElem_cons_succ, List.getElem_cons_zero, List.setIfInBounds_toArray, List.set_cons_zero, List.set_cons_succ])
      refine wpAnyH_take (i := 3) (v := ?_) rfl (by kernel_rfl) (by kernel_rfl) (by kernel_rfl) (fun _ _ _ h => h) (Or.inl ⟨by kernel_rfl, ?_⟩) (by assumption) ?_
      rotate_left
      · (intro w hSw; (try dsimp only at hSw); go_simp; try with_reducible rfl)
      (try simp only [Act.put, List.getElem_toArray, List.getElem_cons_succ, List.getElem_cons_zero, List.setIfInBounds_toArray, List.set_cons_zero, List.set_cons_succ])
      refine wpAnyH_take (i := 4) (v := ?_) rfl (by kernel_rfl) (by kernel_rfl) (by kernel_rfl) (fun _ _ _ h => h) (Or.inl ⟨by kernel_rfl, ?_⟩) (by assumption) ?_
      rotate_left
      · (intro w hSw; (try dsimp only at hSw); go_simp; try with_reducible rfl)
      (try simp only [Act.put, List.getElem_toArray, List.getElem_cons_succ, List.getElem_cons_zero, List.setIfInBounds_toArray, List.set_cons_zero, List.set_cons_succ])
      refine wpAnyH_take (i := 5) (v := ?_) rfl (by kernel_rfl) (by kernel_rfl) (by kernel_rfl) (fun _ _ _ h => h) (Or.inl ⟨by kernel_rfl, ?_⟩) (by assumption) ?_
      rotate_left
      · (intro w hSw; (try dsimp only at hSw); go_simp; try with_reducible rfl)
      (try simp only [Act.put, List.getElem_toArray, List.getElem_cons_succ, List.getElem_cons_zero, List.setIfInBounds_toArray, List.set_cons_zero, List.set_cons_succ])
      refine wpAnyH_take (i := 6) (v := ?_) rfl (by kernel_rfl) (by kernel_rfl) (by kernel_rfl) (fun _ _ _ h => h) (Or.inl ⟨by kernel_rfl, ?_⟩) (by assumption) ?_
      rotate_left
      · (intro w hSw; (try dsimp only at hSw); go_simp; try with_reducible rfl)
      (try simp only [Act.put, List.getElem_toArray, List.getElem_cons_succ, List.getElem_cons_zero, List.setIfInBounds_toArray, List.set_cons_zero, List.set_cons_succ])
      refine wpAnyH_take (i := 7) (v := ?_) rfl (by kernel_rfl) (by kernel_rfl) (by kernel_rfl) (fun _ _ _ h => h) (Or.inl ⟨by kernel_rfl, ?_⟩) (by assumption) ?_
      rotate_left
      · (intro w hSw; (try dsimp only at hSw); go_simp; try with_reducible rfl)
      (try simp only [Act.put, List.getElem_toArray, List.getElem_cons_succ, List.getElem_cons_zero, List.setIfInBounds_toArray, List.set_cons_zero, List.set_cons_succ])
      refine wpAnyH_take (i := 8) (v := ?_) rfl (by kernel_rfl) (by kernel_rfl) (by kernel_rfl) (fun _ _ _ h => h) (Or.inl ⟨by kernel_rfl, ?_⟩) (by assumption) ?_
      rotate_left
      · (intro w hSw; (try dsimp only at hSw); go_simp; try with_reducible rfl)
      (try simp only [Act.put, List.getElem_toArray, List.getElem_cons_succ, List.getElem_cons_zero, List.setIfInBounds_toArray, List.set_cons_zero, List.set_cons_succ])
      refine wpAnyH_take (i := 9) (v := ?_) rfl (by kernel_rfl) (by kernel_rfl) (by kernel_rfl) (fun _ _ _ h => h) (Or.inl ⟨by kernel_rfl, ?_⟩) (by assumption) ?_
      rotate_left
      · (intro w hSw; (try dsimp only at hSw); go_simp; try with_reducible rfl)
      (try simp only [Act.put, List.getElem_toArray, List.getElem_cons_succ, List.getElem_cons_zero, List.setIfInBounds_toArray, List.set_cons_zero, List.set_cons_succ])
      refine wpAnyH_take (i := 10) (v := ?_) rfl (by kernel_rfl) (by kernel_rfl) (by kernel_rfl) (fun _ _ _ h => h) (Or.inl ⟨by kernel_rfl, ?_⟩) (by assumption) ?_
      rotate_left
      · (intro w hSw; (try dsimp only at hSw); go_simp; try with_reducible rfl)
      (try simp only [Act.put, List.getElem_toArray, List.getElem_cons_succ, List.getElem_cons_zero, List.setIfInBounds_toArray, List.set_cons_zero, List.set_cons_succ])
      refine wpAnyH_take (i := 11) (v := ?_) rfl (by kernel_rfl) (by kernel_rfl) (by kernel_rfl) (fun _ _ _ h => h) (Or.inl ⟨by kernel_rfl, ?_⟩) (by assumption) ?_
      rotate_left
      · (intro w hSw; (try dsimp only at hSw); go_simp; try with_reducible rfl)
      (try simp only [Act.put, List.getElem_toArray, List.getElem_cons_succ, List.getElem_cons_zero, List.setIfInBounds_toArray, List.set_cons_zero, List.set_cons_succ])
      refine wpAnyH_take (i := 12) (v := ?_) rfl (by kernel_rfl) (by kernel_rfl) (by kernel_rfl) (fun _ _ _ h => h) (Or.inl ⟨by kernel_rfl, ?_⟩) (by assumption) ?_
      rotate_left
      · (intro w hSw; (try dsimp only at hSw); go_simp; try with_reducible rfl)
      (try simp only [Act.put, List.getElem_toArray, List.getElem_cons_succ, List.getElem_cons_zero, List.setIfInBounds_toArray, List.set_cons_zero, List.set_cons_succ])
      refine wpAnyH_take (i := 13) (v := ?_) rfl (by kernel_rfl) (by kernel_rfl) (by kernel_rfl) (fun _ _ _ h => h) (Or.inl ⟨by kernel_rfl, ?_⟩) (by assumption) ?_
      rotate_left
      · (intro w hSw; (try dsimp only at hSw); go_simp; try with_reducible rfl)
      (try simp only [Act.put, List.getElem_toArray, List.getElem_cons_succ, List.getElem_cons_zero, List.setIfInBounds_toArray, List.set_cons_zero, List.set_cons_succ])
      refine wpAnyH_take (i := 14) (v := ?_) rfl (by kernel_rfl) (by kernel_rfl) (by kernel_rfl) (fun _ _ _ h => h) (Or.inl ⟨by kernel_rfl, ?_⟩) (by assumption) ?_
      rotate_left
      · (intro w hSw; (try dsimp only at hSw); go_simp; try with_reducible rfl)
      (try simp only [Act.put, List.getElem_toArray, List.getElem_cons_succ, List.getElem_cons_zero, List.setIfInBounds_toArray, List.set_cons_zero, List.set_cons_succ])
      refine wpAnyH_take (i := 15) (v := ?_) rfl (by kernel_rfl) (by kernel_rfl) (by kernel_rfl) (fun _ _ _ h => h) (Or.inl ⟨by kernel_rfl, ?_⟩) (by assumption) ?_
      rotate_left
      · (intro w hSw; (try dsimp only at hSw); go_simp; try with_reducible rfl)
      (try simp only [Act.put, List.getElem_toArray, List.getElem_cons_succ, List.getElem_cons_zero, List.setIfInBounds_toArray, List.set_cons_zero, List.set_cons_succ])
      refine wpAnyH_ready (rs := [16]) (by kernel_rfl) (by simp) (AllReadyH.cons rfl (fun K hK => ?_) AllReadyH.nil)
      go_simp
      refine hK.out _ _ (hSS) (fun hHeld => ?_)
      clear hK K
      (try simp only [Act.put, List.getElem_toArray, List.getElem_cons_succ, List.getElem_cons_zero, List.setIfInBounds_toArray, List.set_cons_zero, List.set_cons_succ])
      refine wpAnyH_ready (rs := [17]) (by kernel_rfl) (by simp) (AllReadyH.cons rfl (fun K hK => ?_) AllReadyH.nil)
      go_simp
      refine hK.out _ _ (hSS) (fun hHeld => ?_)
      clear hK K
      (try simp only [Act.put, List.getElem_toArray, List.getElem_cons_succ, List.getElem_cons_zero, List.setIfInBounds_toArray, List.set_cons_zero, List.set_cons_succ])
      refine wpAnyH_take (i := 18) (v := ?_) rfl (by kernel_rfl) (by kernel_rfl) (by kernel_rfl) (fun _ _ _ h => h) (Or.inl ⟨by kernel_rfl, ?_⟩) (by assumption) ?_
      rotate_left
      · (intro w hSw; (try dsimp only at hSw); go_simp; try with_reducible rfl)
      (try simp only [Act.put, List.getElem_toArray, List.getElem_cons_succ, List.getElem_cons_zero, List.setIfInBounds_toArray, List.set_cons_zero, List.set_cons_succ])
      refine wpAnyH_done (by kernel_rfl) ?_ _
      have hmm : (if (if 1 < z then z else 1) < 12 then if 1 < z then z else 1 else (12 : Int)) = (tz : Int) := by
        have := Hem.out
        by_cases h1 : 1 < z
        · simp only [if_pos h1]
          by_cases h2 : z < 12
          · rw [if_pos h2]; omega
          · rw [if_neg h2]; omega
        · simp only [if_neg h1]
          rw [if_pos (by omega)]
          omega
      obtain ⟨yy, hyy⟩ : ∃ yy, (if 1 < z then z else 1) = yy := ⟨_, rfl⟩
      rw [hyy] at hmm ⊢
      rw [hmm]
      have hrd : Rt w2.drew R base (.slice (some ⟨b, off, none⟩) tn tc') kv vv tv ns (cnt + cntN ns k) := Hr2.out.drewN 1
      have hgd : w.grownBy w2.drew (some R) := ⟨Hg2.out.os, Hg2.out.tape, Hg2.out.output, Hg2.out.size, Hg2.out.block⟩
      obtain ⟨wd, hwd⟩ : ∃ wd, w2.drew = wd := ⟨_, rfl⟩
      rw [hwd] at hrd hgd ⊢
      clear hHeld hSS hcz q0 q4 q4f Hr2 Hg2 hyy hmm hwd i2 hmod hmod2 j0 j1 hlt hbz
      have Hr2 := hide hrd
      have Hg2 := hide hgd
      have q0 : wd.cell? ⟨R, 0, none⟩ = some (.slice (some ⟨b, off, none⟩) tn tc') := hrd.tab.cell 0
      have q4 : wd.cell? ⟨R, 4, none⟩ = some (.int .i64 (N : Int)) := by rw [← HN.out]; exact hrd.tab.cell 4
      have q4f := hrd.tab.frozen 4
      clear hrd hgd
      go_wp2
      obtain ⟨W, hW⟩ : ∃ W, wd.setCell ⟨R, 4, none⟩ (.int .i64 N1) = W := ⟨_, rfl⟩
      rw [hW]
      obtain ⟨p1, p2, p3⟩ := Hr2.out.parts
      rw [HN.out] at p1 p2 p3
      have hb0 : Blk wd R 72 #[.slice (some ⟨b, off, none⟩) tn tc', kv, vv, tv, .int .i64 (N : Int), .int .i64 (C : Int), .bool false] := by rw [← HN.out, ← HC.out]; exact Hr2.out.tab
      have hbW : Blk W R 72 #[.slice (some ⟨b, off, none⟩) tn tc', kv, vv, tv, .int .i64 N1, .int .i64 (C : Int), .bool false] := by rw [← hW]; exact hb0.put 4 _
      have k1 : W.ownsRow base 9 1 kv N (ns.map fun d => strV d.k) := by rw [← hW]; exact row_tab hb0 (by decide) p1 4 _
      have k2 : W.ownsRow base 9 1 vv N (ns.map fun d => strV d.v) := by rw [← hW]; exact row_tab hb0 (by decide) p2 4 _
      have k3 : W.ownsRow base 3 1 tv N (ns.map fun d => iv (d.t : Int)) := by rw [← hW]; exact row_tab hb0 (by decide) p3 4 _
      have hmW := hide (show Moved (fun g => g = R) w W by
        rw [← hW]
        exact Moved.set (P := fun g => g = R) (p := ⟨R, 4, none⟩) (Moved.of_grown (P := fun g => g = R) Hg2.out rfl) (.inr rfl) _)
      have hbs : base ≤ W.heap.size := Nat.le_trans Hbase.out hmW.out.size
      clear q0 q4 q4f hW p1 p2 p3 hb0
      -- the keys
      obtain ⟨A, c, A2, m2, c2, w3, A3, m3, c3, w4, rfl, hcS, hcut3, hcut1, hrun2, hrun3, hS1, hS2, hS3, hfz, hb1, hk1, hrows, hmv, hbs1, hlow1⟩ := list_ins Try.underlying70 info9 rfl (by decide) Try.sizeOf9 hbW 1 rfl k1 hbs hFN (.string ⟨k.toArray⟩) rfl (by intro x hx; obtain ⟨d, _, rfl⟩ := List.mem_map.1 hx; rfl) (by omega)
      have hk2 := hrows _ _ _ _ _ (by decide) k2
      have hk3 := hrows _ _ _ _ _ (by decide) k3
      have hk1 := hk1 (by decide)
      have Hmv := hide hmv
      have Hlow1 := hide hlow1
      clear hmv hlow1 hrows k1 k2 k3 hbW
      refine region_last 20 (S := fun W' => W'.cell? ⟨R, 1, none⟩ = some (.slice A N c)) (by kernel_rfl) (hcS) (fun hHeld => ?_)
      refine wpAnyL_take (i := 0) (v := ?_) rfl (by kernel_rfl) (by kernel_rfl) (by kernel_rfl) (by kernel_rfl) (fun _ _ _ h => h) (Or.inl ⟨by kernel_rfl, ?_⟩) (by assumption) ?_
      rotate_left
      · (intro w hSw; (try dsimp only at hSw); go_simp; try with_reducible rfl)
      (try simp only [Act.put, List.getElem_toArray, List.getElem_cons_succ, List.getElem_cons_zero, List.setIfInBounds_toArray, List.set_cons_zero, List.set_cons_succ])
      refine wpAnyL_take (i := 1) (v := ?_) rfl (by kernel_rfl) (by kernel_rfl) (by kernel_rfl) (by kernel_rfl) (fun _ _ _ h => h) (Or.inl ⟨by kernel_rfl, ?_⟩) (by assumption) ?_
      rotate_left
      · (intro w hSw; (try dsimp only at hSw); go_simp; try with_reducible rfl)
      (try simp only [Act.put, List.getElem_toArray, List.getElem_cons_succ, List.getElem_cons_zero, List.setIfInBounds_toArray, List.set_cons_zero, List.set_cons_succ])
      refine wpAnyL_take (i := 2) (v := ?_) rfl (by kernel_rfl) (by kernel_rfl) (by kernel_rfl) (by kernel_rfl) (fun _ _ _ h => h) (Or.inl ⟨by kernel_rfl, ?_⟩) (by assumption) ?_
      rotate_left
      · (intro w hSw; (try dsimp only at hSw); go_simp; try with_reducible rfl)
      (try simp only [Act.put, List.getElem_toArray, List.getElem_cons_succ, List.getElem_cons_zero, List.setIfInBounds_toArray, List.set_cons_zero, List.set_cons_succ])
      refine wpAnyL_take (i := 3) (v := ?_) rfl (by kernel_rfl) (by kernel_rfl) (by kernel_rfl) (by kernel_rfl) (fun _ _ _ h => h) (Or.inl ⟨by kernel_rfl, ?_⟩) (by assumption) ?_
      rotate_left
      · (intro w hSw; (try dsimp only at hSw); go_simp; try with_reducible rfl)
      (try simp only [Act.put, List.getElem_toArray, List.getElem_cons_succ, List.getElem_cons_zero, List.setIfInBounds_toArray, List.set_cons_zero, List.set_cons_succ])
      refine wpAnyL_take (i := 4) (v := ?_) rfl (by kernel_rfl) (by kernel_rfl) (by kernel_rfl) (by kernel_rfl) (fun _ _ _ h => h) (Or.inl ⟨by kernel_rfl, ?_⟩) (by assumption) ?_
      rotate_left
      · (intro w hSw; (try dsimp only at hSw); go_simp; try with_reducible rfl)
      (try simp only [Act.put, List.getElem_toArray, List.getElem_cons_succ, List.getElem_cons_zero, List.setIfInBounds_toArray, List.set_cons_zero, List.set_cons_succ])
      refine wpAnyL_take (i := 5) (v := ?_) rfl (by kernel_rfl) (by kernel_rfl) (by kernel_rfl) (by kernel_rfl) (fun _ _ _ h => h) (Or.inl ⟨by kernel_rfl, ?_⟩) (by assumption) ?_
      rotate_left
      · (intro w hSw; (try dsimp only at hSw); go_simp; try with_reducible rfl)
      (try simp only [Act.put, List.getElem_toArray, List.getElem_cons_succ, List.getElem_cons_zero, List.setIfInBounds_toArray, List.set_cons_zero, List.set_cons_succ])
      refine wpAnyL_take (i := 6) (v := ?_) rfl (by kernel_rfl) (by kernel_rfl) (by kernel_rfl) (by kernel_rfl) (fun _ _ _ h => h) (Or.inl ⟨by kernel_rfl, ?_⟩) (by assumption) ?_
      rotate_left
      · (intro w hSw; (try dsimp only at hSw); go_simp; try with_reducible rfl)
      (try simp only [Act.put, List.getElem_toArray, List.getElem_cons_succ, List.getElem_cons_zero, List.setIfInBounds_toArray, List.set_cons_zero, List.set_cons_succ])
      refine wpAnyL_take (i := 7) (v := ?_) rfl (by kernel_rfl) (by kernel_rfl) (by kernel_rfl) (by kernel_rfl) (fun _ _ _ h => h) (Or.inl ⟨by kernel_rfl, ?_⟩) (by assumption) ?_
      rotate_left
      · (intro w hSw; (try dsimp only at hSw); go_simp; try with_reducible rfl)
      (try simp only [Act.put, List.getElem_toArray, List.getElem_cons_succ, List.getElem_cons_zero, List.setIfInBounds_toArray, List.set_cons_zero, List.set_cons_succ])
      refine wpAnyL_take (i := 8) (v := ?_) rfl (by kernel_rfl) (by kernel_rfl) (by kernel_rfl) (by kernel_rfl) (fun _ _ _ h => h) (Or.inl ⟨by kernel_rfl, ?_⟩) (by assumption) ?_
      rotate_left
      · (intro w hSw; (try dsimp only at hSw); go_simp; try with_reducible rfl)
      (try simp only [Act.put, List.getElem_toArray, List.getElem_cons_succ, List.getElem_cons_zero, List.setIfInBounds_toArray, List.set_cons_zero, List.set_cons_succ])
      refine wpAnyL_take (i := 10) (v := ?_) rfl (by kernel_rfl) (by kernel_rfl) (by kernel_rfl) (by kernel_rfl) (fun _ _ _ h => h) (Or.inl ⟨by kernel_rfl, ?_⟩) (by assumption) ?_
      rotate_left
      · (intro w hSw; (try dsimp only at hSw); go_simp; try with_reducible rfl)
      (try simp only [Act.put, List.getElem_toArray, List.getElem_cons_succ, List.getElem_cons_zero, List.setIfInBounds_toArray, List.set_cons_zero, List.set_cons_succ])
      refine wpAnyL_take (i := 11) (v := ?_) rfl (by kernel_rfl) (by kernel_rfl) (by kernel_rfl) (by kernel_rfl) (fun _ _ _ h => h) (Or.inl ⟨by kernel_rfl, ?_⟩) (by assumption) ?_
      rotate_left
      · (intro w hSw; (try dsimp only at hSw); go_simp; try with_reducible rfl)
      (try simp only [Act.put, List.getElem_toArray, List.getElem_cons_succ, List.getElem_cons_zero, List.setIfInBounds_toArray, List.set_cons_zero, List.set_cons_succ])
      refine wpAnyL_take (i := 12) (v := ?_) rfl (by kernel_rfl) (by kernel_rfl) (by kernel_rfl) (by kernel_rfl) (fun _ _ _ h => h) (Or.inl ⟨by kernel_rfl, ?_⟩) (by assumption) ?_
      rotate_left
      · (intro w hSw; (try dsimp only at hSw); go_simp; try with_reducible rfl)
      (try simp only [Act.put, List.getElem_toArray, List.getElem_cons_succ, List.getElem_cons_zero, List.setIfInBounds_toArray, List.set_cons_zero, List.set_cons_succ])
      refine wpAnyL_take (i := 13) (v := ?_) rfl (by kernel_rfl) (by kernel_rfl) (by kernel_rfl) (by kernel_rfl) (fun _ _ _ h => h) (Or.inl ⟨by kernel_rfl, ?_⟩) (by assumption) ?_
      rotate_left
      · (intro w hSw; (try dsimp only at hSw); go_simp; try with_reducible rfl)
      (try simp only [Act.put, List.getElem_toArray, List.getElem_cons_succ, List.getElem_cons_zero, List.setIfInBounds_toArray, List.set_cons_zero, List.set_cons_succ])
      refine wpAnyL_take (i := 14) (v := ?_) rfl (by kernel_rfl) (by kernel_rfl) (by kernel_rfl) (by kernel_rfl) (fun _ _ _ h => h) (Or.inl ⟨by kernel_rfl, ?_⟩) (by assumption) ?_
      rotate_left
      · (intro w hSw; (try dsimp only at hSw); go_simp; try with_reducible rfl)
      (try simp only [Act.put, List.getElem_toArray, List.getElem_cons_succ, List.getElem_cons_zero, List.setIfInBounds_toArray, List.set_cons_zero, List.set_cons_succ])
      refine wpAnyL_take (i := 15) (v := ?_) rfl (by kernel_rfl) (by kernel_rfl) (by kernel_rfl) (by kernel_rfl) (fun _ _ _ h => h) (Or.inl ⟨by kernel_rfl, ?_⟩) (by assumption) ?_
      rotate_left
      · (intro w hSw; (try dsimp only at hSw); go_simp; try with_reducible rfl)
      (try simp only [Act.put, List.getElem_toArray, List.getElem_cons_succ, List.getElem_cons_zero, List.setIfInBounds_toArray, List.set_cons_zero, List.set_cons_succ])
      refine wpAnyL_ready (i := 9) (by kernel_rfl) rfl (fun K hK => ?_)
      go_simp
      refine hK.out _ _ (hS1) (fun hHeld => ?_)
      clear hK K
      (try simp only [Act.put, List.getElem_toArray, List.getElem_cons_succ, List.getElem_cons_zero, List.setIfInBounds_toArray, List.set_cons_zero, List.set_cons_succ])
      refine wpAnyL_ready (i := 16) (by kernel_rfl) rfl (fun K hK => ?_)
      refine step_append (by kernel_rfl) rfl rfl rfl hrun2 ?_
      refine hK.out _ _ (hS2) (fun hHeld => ?_)
      clear hK K
      (try simp only [Act.put, List.getElem_toArray, List.getElem_cons_succ, List.getElem_cons_zero, List.setIfInBounds_toArray, List.set_cons_zero, List.set_cons_succ])
      refine wpAnyL_ready (i := 17) (by kernel_rfl) rfl (fun K hK => ?_)
      refine step_append (by kernel_rfl) rfl rfl rfl hrun3 ?_
      refine hK.out _ _ (hS3) (fun hHeld => ?_)
      clear hK K
      (try simp only [Act.put, List.getElem_toArray, List.getElem_cons_succ, List.getElem_cons_zero, List.setIfInBounds_toArray, List.set_cons_zero, List.set_cons_succ])
      refine wpAnyL_ready (i := 18) (by kernel_rfl) rfl (fun K hK => ?_)
      go_simp
      refine hK.out _ _ (hS3) (fun hHeld => ?_)
      clear hK K
      (try simp only [Act.put, List.getElem_toArray, List.getElem_cons_succ, List.getElem_cons_zero, List.setIfInBounds_toArray, List.set_cons_zero, List.set_cons_succ])
      refine wpAnyL_take (i := 19) (v := ?_) rfl (by kernel_rfl) (by kernel_rfl) (by kernel_rfl) (by kernel_rfl) (fun _ _ _ h => h) (Or.inl ⟨by kernel_rfl, ?_⟩) (by assumption) ?_
      rotate_left
      · (intro w hSw; (try dsimp only at hSw); go_simp; try with_reducible rfl)
      (try simp only [Act.put, List.getElem_toArray, List.getElem_cons_succ, List.getElem_cons_zero, List.setIfInBounds_toArray, List.set_cons_zero, List.set_cons_succ])
      refine wpAnyL_last (w' := w4.setCell ⟨R, 1, none⟩ (.slice A3 m3 c3)) (by kernel_rfl) rfl (by kernel_rfl) (by kernel_rfl) (by go_simp) ?_
      (try simp only [Act.put, List.getElem_toArray, List.getElem_cons_succ, List.getElem_cons_zero, List.setIfInBounds_toArray, List.set_cons_zero, List.set_cons_succ])
      obtain ⟨W1, hW1⟩ : ∃ W1, w4.setCell ⟨R, 1, none⟩ (.slice A3 m3 c3) = W1 := ⟨_, rfl⟩
      rw [hW1] at hb1 hk1 hk2 hk3 hbs1 Hmv ⊢
      have hb1' : Blk W1 R 72 #[.slice (some ⟨b, off, none⟩) tn tc', .slice A3 m3 c3, vv, tv, .int .i64 N1, .int .i64 (C : Int), .bool false] := hb1
      clear hHeld hcS hcut3 hcut1 hrun2 hrun3 hS1 hS2 hS3 hfz hW1 hb1
      go_wp2
      -- the values
      obtain ⟨B, d, B2, n2, d2, w5, B3, n3, d3, w6, rfl, hcS, hcut3, hcut1, hrun2, hrun3, hS1, hS2, hS3, hfz, hb2, hl2, hrows, hmv, hbs2, hlow2⟩ := list_ins Try.underlying70 info9 rfl (by decide) Try.sizeOf9 hb1' 2 rfl hk2 hbs1 hFN (.string ⟨v.toArray⟩) rfl (by intro x hx; obtain ⟨d, _, rfl⟩ := List.mem_map.1 hx; rfl) (by omega)
      have hl1 := hrows _ _ _ _ _ (by decide) hk1
      have hl3 := hrows _ _ _ _ _ (by decide) hk3
      have hl2 := hl2 (by decide)
      have Hmv2 := hide hmv
      have Hlow2 := hide hlow2
      have Hlt1 := hide (fun g hg => (owns_ltG hk1 (g := g) hg).2)
      clear hmv hlow2 hrows hk1 hk2 hk3 hb1'
      refine region_last 20 (S := fun W' => W'.cell? ⟨R, 2, none⟩ = some (.slice B N d)) (by kernel_rfl) (hcS) (fun hHeld => ?_)
      refine wpAnyL_take (i := 0) (v := ?_) rfl (by kernel_rfl) (by kernel_rfl) (by kernel_rfl) (by kernel_rfl) (fun _ _ _ h => h) (Or.inl ⟨by kernel_rfl, ?_⟩) (by assumption) ?_
      rotate_left
      · (intro w hSw; (try dsimp only at hSw); go_simp; try with_reducible rfl)
      (try simp only [Act.put, List.getElem_toArray, List.getElem_cons_succ, List.getElem_cons_zero, List.setIfInBounds_toArray, List.set_cons_zero, List.set_cons_succ])
      refine wpAnyL_take (i := 1) (v := ?_) rfl (by kernel_rfl) (by kernel_rfl) (by kernel_rfl) (by kernel_rfl) (fun _ _ _ h => h) (Or.inl ⟨by kernel_rfl, ?_⟩) (by assumption) ?_
      rotate_left
      · (intro w hSw; (try dsimp only at hSw); go_simp; try with_reducible rfl)
      (try simp only [Act.put, List.getElem_toArray, List.getElem_cons_succ, List.getElem_cons_zero, List.setIfInBounds_toArray, List.set_cons_zero, List.set_cons_succ])
      refine wpAnyL_take (i := 2) (v := ?_) rfl (by kernel_rfl) (by kernel_rfl) (by kernel_rfl) (by kernel_rfl) (fun _ _ _ h => h) (Or.inl ⟨by kernel_rfl, ?_⟩) (by assumption) ?_
      rotate_left
      · (intro w hSw; (try dsimp only at hSw); go_simp; try with_reducible rfl)
      (try simp only [Act.put, List.getElem_toArray, List.getElem_cons_succ, List.getElem_cons_zero, List.setIfInBounds_toArray, List.set_cons_zero, List.set_cons_succ])
      refine wpAnyL_take (i := 3) (v := ?_) rfl (by kernel_rfl) (by kernel_rfl) (by kernel_rfl) (by kernel_rfl) (fun _ _ _ h => h) (Or.inl ⟨by kernel_rfl, ?_⟩) (by assumption) ?_
      rotate_left
      · (intro w hSw; (try dsimp only at hSw); go_simp; try with_reducible rfl)
      (try simp only [Act.put, List.getElem_toArray, List.getElem_cons_succ, List.getElem_cons_zero, List.setIfInBounds_toArray, List.set_cons_zero, List.set_cons_succ])
      refine wpAnyL_take (i := 4) (v := ?_) rfl (by kernel_rfl) (by kernel_rfl) (by kernel_rfl) (by kernel_rfl) (fun _ _ _ h => h) (Or.inl ⟨by kernel_rfl, ?_⟩) (by assumption) ?_
      rotate_left
      · (intro w hSw; (try dsimp only at hSw); go_simp; try with_reducible rfl)
      (try simp only [Act.put, List.getElem_toArray, List.getElem_cons_succ, List.getElem_cons_zero, List.setIfInBounds_toArray, List.set_cons_zero, List.set_cons_succ])
      refine wpAnyL_take (i := 5) (v := ?_) rfl (by kernel_rfl) (by kernel_rfl) (by kernel_rfl) (by kernel_rfl) (fun _ _ _ h => h) (Or.inl ⟨by kernel_rfl, ?_⟩) (by assumption) ?_
      rotate_left
      · (intro w hSw; (try dsimp only at hSw); go_simp; try with_reducible rfl)
      (try simp only [Act.put, List.getElem_toArray, List.getElem_cons_succ, List.getElem_cons_zero, List.setIfInBounds_toArray, List.set_cons_zero, List.set_cons_succ])
      refine wpAnyL_take (i := 6) (v := ?_) rfl (by kernel_rfl) (by kernel_rfl) (by kernel_rfl) (by kernel_rfl) (fun _ _ _ h => h) (Or.inl ⟨by kernel_rfl, ?_⟩) (by assumption) ?_
      rotate_left
      · (intro w hSw; (try dsimp only at hSw); go_simp; try with_reducible rfl)
      (try simp only [Act.put, List.getElem_toArray, List.getElem_cons_succ, List.getElem_cons_zero, List.setIfInBounds_toArray, List.set_cons_zero, List.set_cons_succ])
      refine wpAnyL_take (i := 7) (v := ?_) rfl (by kernel_rfl) (by kernel_rfl) (by kernel_rfl) (by kernel_rfl) (fun _ _ _ h => h) (Or.inl ⟨by kernel_rfl, ?_⟩) (by assumption) ?_
      rotate_left
      · (intro w hSw; (try dsimp only at hSw); go_simp; try with_reducible rfl)
      (try simp only [Act.put, List.getElem_toArray, List.getElem_cons_succ, List.getElem_cons_zero, List.setIfInBounds_toArray, List.set_cons_zero, List.set_cons_succ])
      refine wpAnyL_take (i := 8) (v := ?_) rfl (by kernel_rfl) (by kernel_rfl) (by kernel_rfl) (by kernel_rfl) (fun _ _ _ h => h) (Or.inl ⟨by kernel_rfl, ?_⟩) (by assumption) ?_
      rotate_left
      · (intro w hSw; (try dsimp only at hSw); go_simp; try with_reducible rfl)
      (try simp only [Act.put, List.getElem_toArray, List.getElem_cons_succ, List.getElem_cons_zero, List.setIfInBounds_toArray, List.set_cons_zero, List.set_cons_succ])
      refine wpAnyL_take (i := 10) (v := ?_) rfl (by kernel_rfl) (by kernel_rfl) (by kernel_rfl) (by kernel_rfl) (fun _ _ _ h => h) (Or.inl ⟨by kernel_rfl, ?_⟩) (by assumption) ?_
      rotate_left
      · (intro w hSw; (try dsimp only at hSw); go_simp; try with_reducible rfl)
      (try simp only [Act.put, List.getElem_toArray, List.getElem_cons_succ, List.getElem_cons_zero, List.setIfInBounds_toArray, List.set_cons_zero, List.set_cons_succ])
      refine wpAnyL_take (i := 11) (v := ?_) rfl (by kernel_rfl) (by kernel_rfl) (by kernel_rfl) (by kernel_rfl) (fun _ _ _ h => h) (Or.inl ⟨by kernel_rfl, ?_⟩) (by assumption) ?_
      rotate_left
      · (intro w hSw; (try dsimp only at hSw); go_simp; try with_reducible rfl)
      (try simp only [Act.put, List.getElem_toArray, List.getElem_cons_succ, List.getElem_cons_zero, List.setIfInBounds_toArray, List.set_cons_zero, List.set_cons_succ])
      refine wpAnyL_take (i := 12) (v := ?_) rfl (by kernel_rfl) (by kernel_rfl) (by kernel_rfl) (by kernel_rfl) (fun _ _ _ h => h) (Or.inl ⟨by kernel_rfl, ?_⟩) (by assumption) ?_
      rotate_left
      · (intro w hSw; (try dsimp only at hSw); go_simp; try with_reducible rfl)
      (try simp only [Act.put, List.getElem_toArray, List.getElem_cons_succ, List.getElem_cons_zero, List.setIfInBounds_toArray, List.set_cons_zero, List.set_cons_succ])
      refine wpAnyL_take (i := 13) (v := ?_) rfl (by kernel_rfl) (by kernel_rfl) (by kernel_rfl) (by kernel_rfl) (fun _ _ _ h => h) (Or.inl ⟨by kernel_rfl, ?_⟩) (by assumption) ?_
      rotate_left
      · (intro w hSw; (try dsimp only at hSw); go_simp; try with_reducible rfl)
      (try simp only [Act.put, List.getElem_toArray, List.getElem_cons_succ, List.getElem_cons_zero, List.setIfInBounds_toArray, List.set_cons_zero, List.set_cons_succ])
      refine wpAnyL_take (i := 14) (v := ?_) rfl (by kernel_rfl) (by kernel_rfl) (by kernel_rfl) (by kernel_rfl) (fun _ _ _ h => h) (Or.inl ⟨by kernel_rfl, ?_⟩) (by assumption) ?_
      rotate_left
      · (intro w hSw; (try dsimp only at hSw); go_simp; try with_reducible rfl)
      (try simp only [Act.put, List.getElem_toArray, List.getElem_cons_succ, List.getElem_cons_zero, List.setIfInBounds_toArray, List.set_cons_zero, List.set_cons_succ])
      refine wpAnyL_take (i := 15) (v := ?_) rfl (by kernel_rfl) (by kernel_rfl) (by kernel_rfl) (by kernel_rfl) (fun _ _ _ h => h) (Or.inl ⟨by kernel_rfl, ?_⟩) (by assumption) ?_
      rotate_left
      · (intro w hSw; (try dsimp only at hSw); go_simp; try with_reducible rfl)
      (try simp only [Act.put, List.getElem_toArray, List.getElem_cons_succ, List.getElem_cons_zero, List.setIfInBounds_toArray, List.set_cons_zero, List.set_cons_succ])
      refine wpAnyL_ready (i := 9) (by kernel_rfl) rfl (fun K hK => ?_)
      go_simp
      refine hK.out _ _ (hS1) (fun hHeld => ?_)
      clear hK K
      (try simp only [Act.put, List.getElem_toArray, List.getElem_cons_succ, List.getElem_cons_zero, List.setIfInBounds_toArray, List.set_cons_zero, List.set_cons_succ])
      refine wpAnyL_ready (i := 16) (by kernel_rfl) rfl (fun K hK => ?_)
      refine step_append (by kernel_rfl) rfl rfl rfl hrun2 ?_
      refine hK.out _ _ (hS2) (fun hHeld => ?_)
      clear hK K
      (try simp only [Act.put, List.getElem_toArray, List.getElem_cons_succ, List.getElem_cons_zero, List.setIfInBounds_toArray, List.set_cons_zero, List.set_cons_succ])
      refine wpAnyL_ready (i := 17) (by kernel_rfl) rfl (fun K hK => ?_)
      refine step_append (by kernel_rfl) rfl rfl rfl hrun3 ?_
      refine hK.out _ _ (hS3) (fun hHeld => ?_)
      clear hK K
      (try simp only [Act.put, List.getElem_toArray, List.getElem_cons_succ, List.getElem_cons_zero, List.setIfInBounds_toArray, List.set_cons_zero, List.set_cons_succ])
      refine wpAnyL_ready (i := 18) (by kernel_rfl) rfl (fun K hK => ?_)
      go_simp
      refine hK.out _ _ (hS3) (fun hHeld => ?_)
      clear hK K
      (try simp only [Act.put, List.getElem_toArray, List.getElem_cons_succ, List.getElem_cons_zero, List.setIfInBounds_toArray, List.set_cons_zero, List.set_cons_succ])
      refine wpAnyL_take (i := 19) (v := ?_) rfl (by kernel_rfl) (by kernel_rfl) (by kernel_rfl) (by kernel_rfl) (fun _ _ _ h => h) (Or.inl ⟨by kernel_rfl, ?_⟩) (by assumption) ?_
      rotate_left
      · (intro w hSw; (try dsimp only at hSw); go_simp; try with_reducible rfl)
      (try simp only [Act.put, List.getElem_toArray, List.getElem_cons_succ, List.getElem_cons_zero, List.setIfInBounds_toArray, List.set_cons_zero, List.set_cons_succ])
      refine wpAnyL_last (w' := w6.setCell ⟨R, 2, none⟩ (.slice B3 n3 d3)) (by kernel_rfl) rfl (by kernel_rfl) (by kernel_rfl) (by go_simp) ?_
      (try simp only [Act.put, List.getElem_toArray, List.getElem_cons_succ, List.getElem_cons_zero, List.setIfInBounds_toArray, List.set_cons_zero, List.set_cons_succ])
      obtain ⟨W2, hW2⟩ : ∃ W2, w6.setCell ⟨R, 2, none⟩ (.slice B3 n3 d3) = W2 := ⟨_, rfl⟩
      rw [hW2] at hb2 hl1 hl2 hl3 hbs2 Hmv2 ⊢
      have hb2' : Blk W2 R 72 #[.slice (some ⟨b, off, none⟩) tn tc', .slice A3 m3 c3, .slice B3 n3 d3, tv, .int .i64 N1, .int .i64 (C : Int), .bool false] := hb2
      clear hHeld hcS hcut3 hcut1 hrun2 hrun3 hS1 hS2 hS3 hfz hW2 hb2
      go_wp2
      -- the towers
      obtain ⟨E, f, E2, o2, f2, w7, E3, o3, f3, w8, rfl, hcS, hcut3, hcut1, hrun2, hrun3, hS1, hS2, hS3, hfz, hb3, hj3, hrows, hmv, hbs3, hlow3⟩ := list_ins Try.underlying27 info3 rfl (by decide) Try.sizeOf3 hb2' 3 rfl hl3 hbs2 hFN (.int .i64 (tz : Int)) rfl (by intro x hx; obtain ⟨d, _, rfl⟩ := List.mem_map.1 hx; rfl) (by omega)
      have hj1 := hrows _ _ _ _ _ (by decide) hl1
      have hj2 := hrows _ _ _ _ _ (by decide) hl2
      have hj3 := hj3 (by decide)
      have Hmv3 := hide hmv
      clear hmv hlow3 hrows hl1 hl2 hl3 hb2'
      refine region_last 20 (S := fun W' => W'.cell? ⟨R, 3, none⟩ = some (.slice E N f)) (by kernel_rfl) (hcS) (fun hHeld => ?_)
      refine wpAnyL_take (i := 0) (v := ?_) rfl (by kernel_rfl) (by kernel_rfl) (by kernel_rfl) (by kernel_rfl) (fun _ _ _ h => h) (Or.inl ⟨by kernel_rfl, ?_⟩) (by assumption) ?_
      rotate_left
      · (intro w hSw; (try dsimp only at hSw); go_simp; try with_reducible rfl)
      (try simp only [Act.put, List.getElem_toArray, List.getElem_cons_succ, List.getElem_cons_zero, List.setIfInBounds_toArray, List.set_cons_zero, List.set_cons_succ])
      refine wpAnyL_take (i := 1) (v := ?_) rfl (by kernel_rfl) (by kernel_rfl) (by kernel_rfl) (by kernel_rfl) (fun _ _ _ h => h) (Or.inl ⟨by kernel_rfl, ?_⟩) (by assumption) ?_
      rotate_left
      · (intro w hSw; (try dsimp only at hSw); go_simp; try with_reducible rfl)
      (try simp only [Act.put, List.getElem_toArray, List.getElem_cons_succ, List.getElem_cons_zero, List.setIfInBounds_toArray, List.set_cons_zero, List.set_cons_succ])
      refine wpAnyL_take (i := 2) (v := ?_) rfl (by kernel_rfl) (by kernel_rfl) (by kernel_rfl) (by kernel_rfl) (fun _ _ _ h => h) (Or.inl ⟨by kernel_rfl, ?_⟩) (by assumption) ?_
      rotate_left
      · (intro w hSw; (try dsimp only at hSw); go_simp; try with_reducible rfl)
      (try simp only [Act.put, List.getElem_toArray, List.getElem_cons_succ, List.getElem_cons_zero, List.setIfInBounds_toArray, List.set_cons_zero, List.set_cons_succ])
      refine wpAnyL_take (i := 3) (v := ?_) rfl (by kernel_rfl) (by kernel_rfl) (by kernel_rfl) (by kernel_rfl) (fun _ _ _ h => h) (Or.inl ⟨by kernel_rfl, ?_⟩) (by assumption) ?_
      rotate_left
      · (intro w hSw; (try dsimp only at hSw); go_simp; try with_reducible rfl)
      (try simp only [Act.put, List.getElem_toArray, List.getElem_cons_succ, List.getElem_cons_zero, List.setIfInBounds_toArray, List.set_cons_zero, List.set_cons_succ])
      refine wpAnyL_take (i := 4) (v := ?_) rfl (by kernel_rfl) (by kernel_rfl) (by kernel_rfl) (by kernel_rfl) (fun _ _ _ h => h) (Or.inl ⟨by kernel_rfl, ?_⟩) (by assumption) ?_
      rotate_left
      · (intro w hSw; (try dsimp only at hSw); go_simp; try with_reducible rfl)
      (try simp only [Act.put, List.getElem_toArray, List.getElem_cons_succ, List.getElem_cons_zero, List.setIfInBounds_toArray, List.set_cons_zero, List.set_cons_succ])
      refine wpAnyL_take (i := 5) (v := ?_) rfl (by kernel_rfl) (by kernel_rfl) (by kernel_rfl) (by kernel_rfl) (fun _ _ _ h => h) (Or.inl ⟨by kernel_rfl, ?_⟩) (by assumption) ?_
      rotate_left
      · (intro w hSw; (try dsimp only at hSw); go_simp; try with_reducible rfl)
      (try simp only [Act.put, List.getElem_toArray, List.getElem_cons_succ, List.getElem_cons_zero, List.setIfInBounds_toArray, List.set_cons_zero, List.set_cons_succ])
      refine wpAnyL_take (i := 6) (v := ?_) rfl (by kernel_rfl) (by kernel_rfl) (by kernel_rfl) (by kernel_rfl) (fun _ _ _ h => h) (Or.inl ⟨by kernel_rfl, ?_⟩) (by assumption) ?_
      rotate_left
      · (intro w hSw; (try dsimp only at hSw); go_simp; try with_reducible rfl)
      (try simp only [Act.put, List.getElem_toArray, List.getElem_cons_succ, List.getElem_cons_zero, List.setIfInBounds_toArray, List.set_cons_zero, List.set_cons_succ])
      refine wpAnyL_take (i := 7) (v := ?_) rfl (by kernel_rfl) (by kernel_rfl) (by kernel_rfl) (by kernel_rfl) (fun _ _ _ h => h) (Or.inl ⟨by kernel_rfl, ?_⟩) (by assumption) ?_
      rotate_left
      · (intro w hSw; (try dsimp only at hSw); go_simp; try with_reducible rfl)
      (try simp only [Act.put, List.getElem_toArray, List.getElem_cons_succ, List.getElem_cons_zero, List.setIfInBounds_toArray, List.set_cons_zero, List.set_cons_succ])
      refine wpAnyL_take (i := 8) (v := ?_) rfl (by kernel_rfl) (by kernel_rfl) (by kernel_rfl) (by kernel_rfl) (fun _ _ _ h => h) (Or.inl ⟨by kernel_rfl, ?_⟩) (by assumption) ?_
      rotate_left
      · (intro w hSw; (try dsimp only at hSw); go_simp; try with_reducible rfl)
      (try simp only [Act.put, List.getElem_toArray, List.getElem_cons_succ, List.getElem_cons_zero, List.setIfInBounds_toArray, List.set_cons_zero, List.set_cons_succ])
      refine wpAnyL_take (i := 10) (v := ?_) rfl (by kernel_rfl) (by kernel_rfl) (by kernel_rfl) (by kernel_rfl) (fun _ _ _ h => h) (Or.inl ⟨by kernel_rfl, ?_⟩) (by assumption) ?_
      rotate_left
      · (intro w hSw; (try dsimp only at hSw); go_simp; try with_reducible rfl)
      (try simp only [Act.put, List.getElem_toArray, List.getElem_cons_succ, List.getElem_cons_zero, List.setIfInBounds_toArray, List.set_cons_zero, List.set_cons_succ])
      refine wpAnyL_take (i := 11) (v := ?_) rfl (by kernel_rfl) (by kernel_rfl) (by kernel_rfl) (by kernel_rfl) (fun _ _ _ h => h) (Or.inl ⟨by kernel_rfl, ?_⟩) (by assumption) ?_
      rotate_left
      · (intro w hSw; (try dsimp only at hSw); go_simp; try with_reducible rfl)
      (try simp only [Act.put, List.getElem_toArray, List.getElem_cons_succ, List.getElem_cons_zero, List.setIfInBounds_toArray, List.set_cons_zero, List.set_cons_succ])
      refine wpAnyL_take (i := 12) (v := ?_) rfl (by kernel_rfl) (by kernel_rfl) (by kernel_rfl) (by kernel_rfl) (fun _ _ _ h => h) (Or.inl ⟨by kernel_rfl, ?_⟩) (by assumption) ?_
      rotate_left
      · (intro w hSw; (try dsimp only at hSw); go_simp; try with_reducible rfl)
      (try simp only [Act.put, List.getElem_toArray, List.getElem_cons_succ, List.getElem_cons_zero, List.setIfInBounds_toArray, List.set_cons_zero, List.set_cons_succ])
      refine wpAnyL_take (i := 13) (v := ?_) rfl (by kernel_rfl) (by kernel_rfl) (by kernel_rfl) (by kernel_rfl) (fun _ _ _ h => h) (Or.inl ⟨by kernel_rfl, ?_⟩) (by assumption) ?_
      rotate_left
      · (intro w hSw; (try dsimp only at hSw); go_simp; try with_reducible rfl)
      (try simp only [Act.put, List.getElem_toArray, List.getElem_cons_succ, List.getElem_cons_zero, List.setIfInBounds_toArray, List.set_cons_zero, List.set_cons_succ])
      refine wpAnyL_take (i := 14) (v := ?_) rfl (by kernel_rfl) (by kernel_rfl) (by kernel_rfl) (by kernel_rfl) (fun _ _ _ h => h) (Or.inl ⟨by kernel_rfl, ?_⟩) (by assumption) ?_
      rotate_left
      · (intro w hSw; (try dsimp only at hSw); go_simp; try with_reducible rfl)
      (try simp only [Act.put, List.getElem_toArray, List.getElem_cons_succ, List.getElem_cons_zero, List.setIfInBounds_toArray, List.set_cons_zero, List.set_cons_succ])
      refine wpAnyL_take (i := 15) (v := ?_) rfl (by kernel_rfl) (by kernel_rfl) (by kernel_rfl) (by kernel_rfl) (fun _ _ _ h => h) (Or.inl ⟨by kernel_rfl, ?_⟩) (by assumption) ?_
      rotate_left
      · (intro w hSw; (try dsimp only at hSw); go_simp; try with_reducible rfl)
      (try simp only [Act.put, List.getElem_toArray, List.getElem_cons_succ, List.getElem_cons_zero, List.setIfInBounds_toArray, List.set_cons_zero, List.set_cons_succ])
      refine wpAnyL_ready (i := 9) (by kernel_rfl) rfl (fun K hK => ?_)
      go_simp
      refine hK.out _ _ (hS1) (fun hHeld => ?_)
      clear hK K
      (try simp only [Act.put, List.getElem_toArray, List.getElem_cons_succ, List.getElem_cons_zero, List.setIfInBounds_toArray, List.set_cons_zero, List.set_cons_succ])
      refine wpAnyL_ready (i := 16) (by kernel_rfl) rfl (fun K hK => ?_)
      refine step_append (by kernel_rfl) rfl rfl rfl hrun2 ?_
      refine hK.out _ _ (hS2) (fun hHeld => ?_)
      clear hK K
      (try simp only [Act.put, List.getElem_toArray, List.getElem_cons_succ, List.getElem_cons_zero, List.setIfInBounds_toArray, List.set_cons_zero, List.set_cons_succ])
      refine wpAnyL_ready (i := 17) (by kernel_rfl) rfl (fun K hK => ?_)
      refine step_append (by kernel_rfl) rfl rfl rfl hrun3 ?_
      refine hK.out _ _ (hS3) (fun hHeld => ?_)
      clear hK K
      (try simp only [Act.put, List.getElem_toArray, List.getElem_cons_succ, List.getElem_cons_zero, List.setIfInBounds_toArray, List.set_cons_zero, List.set_cons_succ])
      refine wpAnyL_ready (i := 18) (by kernel_rfl) rfl (fun K hK => ?_)
      go_simp
      refine hK.out _ _ (hS3) (fun hHeld => ?_)
      clear hK K
      (try simp only [Act.put, List.getElem_toArray, List.getElem_cons_succ, List.getElem_cons_zero, List.setIfInBounds_toArray, List.set_cons_zero, List.set_cons_succ])
      refine wpAnyL_take (i := 19) (v := ?_) rfl (by kernel_rfl) (by kernel_rfl) (by kernel_rfl) (by kernel_rfl) (fun _ _ _ h => h) (Or.inl ⟨by kernel_rfl, ?_⟩) (by assumption) ?_
      rotate_left
      · (intro w hSw; (try dsimp only at hSw); go_simp; try with_reducible rfl)
      (try simp only [Act.put, List.getElem_toArray, List.getElem_cons_succ, List.getElem_cons_zero, List.setIfInBounds_toArray, List.set_cons_zero, List.set_cons_succ])
      refine wpAnyL_last (w' := w8.setCell ⟨R, 3, none⟩ (.slice E3 o3 f3)) (by kernel_rfl) rfl (by kernel_rfl) (by kernel_rfl) (by go_simp) ?_
      (try simp only [Act.put, List.getElem_toArray, List.getElem_cons_succ, List.getElem_cons_zero, List.setIfInBounds_toArray, List.set_cons_zero, List.set_cons_succ])
      obtain ⟨W3, hW3⟩ : ∃ W3, w8.setCell ⟨R, 3, none⟩ (.slice E3 o3 f3) = W3 := ⟨_, rfl⟩
      rw [hW3] at hb3 hj1 hj2 hj3 hbs3 Hmv3 ⊢
      have hb3' : Blk W3 R 72 #[.slice (some ⟨b, off, none⟩) tn tc', .slice A3 m3 c3, .slice B3 n3 d3, .slice E3 o3 f3, .int .i64 N1, .int .i64 (C : Int), .bool false] := hb3
      clear hHeld hcS hcut3 hcut1 hrun2 hrun3 hS1 hS2 hS3 hfz hW3 hb3
      go_wp2
      go_ret
      have hFl : F ≤ ns.length := by rw [HN.out]; exact hFN
      have hlen : (ins ns F ⟨k, v, tz⟩).length = N + 1 := by rw [ins_len hFl, HN.out]
      refine ⟨rfl, ⟨.slice A3 m3 c3, .slice B3 n3 d3, .slice E3 o3 f3, ?_, ?_, ?_⟩, ?_⟩
      · rw [HN.out, Htz.out, Hput'.out]
        refine Rt.of_parts ?_ ?_ ?_ ?_
        · rw [hlen, HC.out, show ((N + 1 : Nat) : Int) = N1 by have := HN1.out; omega]
          exact hb3'
        · rw [hlen, ins_map]; exact hj1
        · rw [hlen, ins_map]; exact hj2
        · rw [hlen, ins_map]; exact hj3
      · right
        intro e
        cases hA : (Value.slice A3 m3 c3).ownBlock with
        | none => rw [hA] at e; cases hB : (Value.slice B3 n3 d3).ownBlock with
          | none => exact absurd hA (by
              have := hj1.2
              rcases this with ⟨_, h0⟩ | ⟨g, cap, cur, e9, _⟩
              · omega
              · rw [e9]; intro h; cases h)
          | some g => rw [hB] at e; cases e
        | some g =>
          have h1 := Hlt1.out g hA
          have h2 := Hlow2.out g (e.symm.trans hA)
          omega
      · intro g hg
        right
        have h1 := Hlow2.out g hg
        have h2 := Hmv.out.size
        have h3 := hmW.out.size
        omega
      · exact (((hmW.out.trans Hmv.out).trans Hmv2.out).trans Hmv3.out).mono (fun g hg => .inl hg)
    · have htl2 := Htw.out.len
      rw [List.length_map] at htl2
      have e1 : towN tws N = 1 := by unfold towN; rw [dif_neg (by omega)]
      rw [e1] at Hput'
      have He1 := hide e1
      have j2 : tn = 0 := by omega
      subst j2
      clear e1 htl2 h0
      go_wp2
      obtain ⟨W, hW⟩ : ∃ W, w2.setCell ⟨R, 4, none⟩ (.int .i64 N1) = W := ⟨_, rfl⟩
      rw [hW]
      obtain ⟨p1, p2, p3⟩ := Hr2.out.parts
      rw [HN.out] at p1 p2 p3
      have hb0 : Blk w2 R 72 #[.slice TA 0 tc', kv, vv, tv, .int .i64 (N : Int), .int .i64 (C : Int), .bool false] := by rw [← HN.out, ← HC.out]; exact Hr2.out.tab
      have hbW : Blk W R 72 #[.slice TA 0 tc', kv, vv, tv, .int .i64 N1, .int .i64 (C : Int), .bool false] := by rw [← hW]; exact hb0.put 4 _
      have k1 : W.ownsRow base 9 1 kv N (ns.map fun d => strV d.k) := by rw [← hW]; exact row_tab hb0 (by decide) p1 4 _
      have k2 : W.ownsRow base 9 1 vv N (ns.map fun d => strV d.v) := by rw [← hW]; exact row_tab hb0 (by decide) p2 4 _
      have k3 : W.ownsRow base 3 1 tv N (ns.map fun d => iv (d.t : Int)) := by rw [← hW]; exact row_tab hb0 (by decide) p3 4 _
      have hmW := hide (show Moved (fun g => g = R) w W by
        rw [← hW]
        exact Moved.set (P := fun g => g = R) (p := ⟨R, 4, none⟩) (Moved.of_grown (P := fun g => g = R) Hg2.out rfl) (.inr rfl) _)
      have hbs : base ≤ W.heap.size := Nat.le_trans Hbase.out hmW.out.size
      clear q0 q4 q4f hW p1 p2 p3 hb0
      -- the keys
      obtain ⟨A, c, A2, m2, c2, w3, A3, m3, c3, w4, rfl, hcS, hcut3, hcut1, hrun2, hrun3, hS1, hS2, hS3, hfz, hb1, hk1, hrows, hmv, hbs1, hlow1⟩ := list_ins Try.underlying70 info9 rfl (by decide) Try.sizeOf9 hbW 1 rfl k1 hbs hFN (.string ⟨k.toArray⟩) rfl (by intro x hx; obtain ⟨d, _, rfl⟩ := List.mem_map.1 hx; rfl) (by omega)
      have hk2 := hrows _ _ _ _ _ (by decide) k2
      have hk3 := hrows _ _ _ _ _ (by decide) k3
      have hk1 := hk1 (by decide)
      have Hmv := hide hmv
      have Hlow1 := hide hlow1
      clear hmv hlow1 hrows k1 k2 k3 hbW
      refine region_last 20 (S := fun W' => W'.cell? ⟨R, 1, none⟩ = some (.slice A N c)) (by kernel_rfl) (hcS) (fun hHeld => ?_)
      refine wpAnyL_take (i := 0) (v := ?_) rfl (by kernel_rfl) (by kernel_rfl) (by kernel_rfl) (by kernel_rfl) (fun _ _ _ h => h) (Or.inl ⟨by kernel_rfl, ?_⟩) (by assumption) ?_
      rotate_left
      · (intro w hSw; (try dsimp only at hSw); go_simp; try with_reducible rfl)
      (try simp only [Act.put, List.getElem_toArray, List.getElem_cons_succ, List.getElem_cons_zero, List.setIfInBounds_toArray, List.set_cons_zero, List.set_cons_succ])
      refine wpAnyL_take (i := 1) (v := ?_) rfl (by kernel_rfl) (by kernel_rfl) (by kernel_rfl) (by kernel_rfl) (fun _ _ _ h => h) (Or.inl ⟨by kernel_rfl, ?_⟩) (by assumption) ?_
      rotate_left
      · (intro w hSw; (try dsimp only at hSw); go_simp; try with_reducible rfl)
      (try simp only [Act.put, List.getElem_toArray, List.getElem_cons_succ, List.getElem_cons_zero, List.setIfInBounds_toArray, List.set_cons_zero, List.set_cons_succ])
      refine wpAnyL_take (i := 2) (v := ?_) rfl (by kernel_rfl) (by kernel_rfl) (by kernel_rfl) (by kernel_rfl) (fun _ _ _ h => h) (Or.inl ⟨by kernel_rfl, ?_⟩) (by assumption) ?_
      rotate_left
      · (intro w hSw; (try dsimp only at hSw); go_simp; try with_reducible rfl)
      (try simp only [Act.put, List.getElem_toArray, List.getElem_cons_succ, List.getElem_cons_zero, List.setIfInBounds_toArray, List.set_cons_zero, List.set_cons_succ])
      refine wpAnyL_take (i := 3) (v := ?_) rfl (by kernel_rfl) (by kernel_rfl) (by kernel_rfl) (by kernel_rfl) (fun _ _ _ h => h) (Or.inl ⟨by kernel_rfl, ?_⟩) (by assumption) ?_
      rotate_left
      · (intro w hSw; (try dsimp only at hSw); go_simp; try with_reducible rfl)
      (try simp only [Act.put, List.getElem_toArray, List.getElem_cons_succ, List.getElem_cons_zero, List.setIfInBounds_toArray, List.set_cons_zero, List.set_cons_succ])
      refine wpAnyL_take (i := 4) (v := ?_) rfl (by kernel_rfl) (by kernel_rfl) (by kernel_rfl) (by kernel_rfl) (fun _ _ _ h => h) (Or.inl ⟨by kernel_rfl, ?_⟩) (by assumption) ?_
      rotate_left
      · (intro w hSw; (try dsimp only at hSw); go_simp; try with_reducible rfl)
      (try simp only [Act.put, List.getElem_toArray, List.getElem_cons_succ, List.getElem_cons_zero, List.setIfInBounds_toArray, List.set_cons_zero, List.set_cons_succ])
      refine wpAnyL_take (i := 5) (v := ?_) rfl (by kernel_rfl) (by kernel_rfl) (by kernel_rfl) (by kernel_rfl) (fun _ _ _ h => h) (Or.inl ⟨by kernel_rfl, ?_⟩) (by assumption) ?_
      rotate_left
      · (intro w hSw; (try dsimp only at hSw); go_simp; try with_reducible rfl)
      (try simp only [Act.put, List.getElem_toArray, List.getElem_cons_succ, List.getElem_cons_zero, List.setIfInBounds_toArray, List.set_cons_zero, List.set_cons_succ])
      refine wpAnyL_take (i := 6) (v := ?_) rfl (by kernel_rfl) (by kernel_rfl) (by kernel_rfl) (by kernel_rfl) (fun _ _ _ h => h) (Or.inl ⟨by kernel_rfl, ?_⟩) (by assumption) ?_
      rotate_left
      · (intro w hSw; (try dsimp only at hSw); go_simp; try with_reducible rfl)
      (try simp only [Act.put, List.getElem_toArray, List.getElem_cons_succ, List.getElem_cons_zero, List.setIfInBounds_toArray, List.set_cons_zero, List.set_cons_succ])
      refine wpAnyL_take (i := 7) (v := ?_) rfl (by kernel_rfl) (by kernel_rfl) (by kernel_rfl) (by kernel_rfl) (fun _ _ _ h => h) (Or.inl ⟨by kernel_rfl, ?_⟩) (by assumption) ?_
      rotate_left
      · (intro w hSw; (try dsimp only at hSw); go_simp; try with_reducible rfl)
      (try simp only [Act.put, List.getElem_toArray, List.getElem_cons_succ, List.getElem_cons_zero, List.setIfInBounds_toArray, List.set_cons_zero, List.set_cons_succ])
      refine wpAnyL_take (i := 8) (v := ?_) rfl (by kernel_rfl) (by kernel_rfl) (by kernel_rfl) (by kernel_rfl) (fun _ _ _ h => h) (Or.inl ⟨by kernel_rfl, ?_⟩) (by assumption) ?_
      rotate_left
      · (intro w hSw; (try dsimp only at hSw); go_simp; try with_reducible rfl)
      (try simp only [Act.put, List.getElem_toArray, List.getElem_cons_succ, List.getElem_cons_zero, List.setIfInBounds_toArray, List.set_cons_zero, List.set_cons_succ])
      refine wpAnyL_take (i := 10) (v := ?_) rfl (by kernel_rfl) (by kernel_rfl) (by kernel_rfl) (by kernel_rfl) (fun _ _ _ h => h) (Or.inl ⟨by kernel_rfl, ?_⟩) (by assumption) ?_
      rotate_left
      · (intro w hSw; (try dsimp only at hSw); go_simp; try with_reducible rfl)
      (try simp only [Act.put, List.getElem_toArray, List.getElem_cons_succ, List.getElem_cons_zero, List.setIfInBounds_toArray, List.set_cons_zero, List.set_cons_succ])
      refine wpAnyL_take (i := 11) (v := ?_) rfl (by kernel_rfl) (by kernel_rfl) (by kernel_rfl) (by kernel_rfl) (fun _ _ _ h => h) (Or.inl ⟨by kernel_rfl, ?_⟩) (by assumption) ?_
      rotate_left
      · (intro w hSw; (try dsimp only at hSw); go_simp; try with_reducible rfl)
      (try simp only [Act.put, List.getElem_toArray, List.getElem_cons_succ, List.getElem_cons_zero, List.setIfInBounds_toArray, List.set_cons_zero, List.set_cons_succ])
      refine wpAnyL_take (i := 12) (v := ?_) rfl (by kernel_rfl) (by kernel_rfl) (by kernel_rfl) (by kernel_rfl) (fun _ _ _ h => h) (Or.inl ⟨by kernel_rfl, ?_⟩) (by assumption) ?_
      rotate_left
      · (intro w hSw; (try dsimp only at hSw); go_simp; try with_reducible rfl)
      (try simp only [Act.put, List.getElem_toArray, List.getElem_cons_succ, List.getElem_cons_zero, List.setIfInBounds_toArray, List.set_cons_zero, List.set_cons_succ])
      refine wpAnyL_take (i := 13) (v := ?_) rfl (by kernel_rfl) (by kernel_rfl) (by kernel_rfl) (by kernel_rfl) (fun _ _ _ h => h) (Or.inl ⟨by kernel_rfl, ?_⟩) (by assumption) ?_
      rotate_left
      · (intro w hSw; (try dsimp only at hSw); go_simp; try with_reducible rfl)
      (try simp only [Act.put, List.getElem_toArray, List.getElem_cons_succ, List.getElem_cons_zero, List.setIfInBounds_toArray, List.set_cons_zero, List.set_cons_succ])
      refine wpAnyL_take (i := 14) (v := ?_) rfl (by kernel_rfl) (by kernel_rfl) (by kernel_rfl) (by kernel_rfl) (fun _ _ _ h => h) (Or.inl ⟨by kernel_rfl, ?_⟩) (by assumption) ?_
      rotate_left
      · (intro w hSw; (try dsimp only at hSw); go_simp; try with_reducible rfl)
      (try simp only [Act.put, List.getElem_toArray, List.getElem_cons_succ, List.getElem_cons_zero, List.setIfInBounds_toArray, List.set_cons_zero, List.set_cons_succ])
      refine wpAnyL_take (i := 15) (v := ?_) rfl (by kernel_rfl) (by kernel_rfl) (by kernel_rfl) (by kernel_rfl) (fun _ _ _ h => h) (Or.inl ⟨by kernel_rfl, ?_⟩) (by assumption) ?_
      rotate_left
      · (intro w hSw; (try dsimp only at hSw); go_simp; try with_reducible rfl)
      (try simp only [Act.put, List.getElem_toArray, List.getElem_cons_succ, List.getElem_cons_zero, List.setIfInBounds_toArray, List.set_cons_zero, List.set_cons_succ])
      refine wpAnyL_ready (i := 9) (by kernel_rfl) rfl (fun K hK => ?_)
      go_simp
      refine hK.out _ _ (hS1) (fun hHeld => ?_)
      clear hK K
      (try simp only [Act.put, List.getElem_toArray, List.getElem_cons_succ, List.getElem_cons_zero, List.setIfInBounds_toArray, List.set_cons_zero, List.set_cons_succ])
      refine wpAnyL_ready (i := 16) (by kernel_rfl) rfl (fun K hK => ?_)
      refine step_append (by kernel_rfl) rfl rfl rfl hrun2 ?_
      refine hK.out _ _ (hS2) (fun hHeld => ?_)
      clear hK K
      (try simp only [Act.put, List.getElem_toArray, List.getElem_cons_succ, List.getElem_cons_zero, List.setIfInBounds_toArray, List.set_cons_zero, List.set_cons_succ])
      refine wpAnyL_ready (i := 17) (by kernel_rfl) rfl (fun K hK => ?_)
      refine step_append (by kernel_rfl) rfl rfl rfl hrun3 ?_
      refine hK.out _ _ (hS3) (fun hHeld => ?_)
      clear hK K
      (try simp only [Act.put, List.getElem_toArray, List.getElem_cons_succ, List.getElem_cons_zero, List.setIfInBounds_toArray, List.set_cons_zero, List.set_cons_succ])
      refine wpAnyL_ready (i := 18) (by kernel_rfl) rfl (fun K hK => ?_)
      go_simp
      refine hK.out _ _ (hS3) (fun hHeld => ?_)
      clear hK K
      (try simp only [Act.put, List.getElem_toArray, List.getElem_cons_succ, List.getElem_cons_zero, List.setIfInBounds_toArray, List.set_cons_zero, List.set_cons_succ])
      refine wpAnyL_take (i := 19) (v := ?_) rfl (by kernel_rfl) (by kernel_rfl) (by kernel_rfl) (by kernel_rfl) (fun _ _ _ h => h) (Or.inl ⟨by kernel_rfl, ?_⟩) (by assumption) ?_
      rotate_left
      · (intro w hSw; (try dsimp only at hSw); go_simp; try with_reducible rfl)
      (try simp only [Act.put, List.getElem_toArray, List.getElem_cons_succ, List.getElem_cons_zero, List.setIfInBounds_toArray, List.set_cons_zero, List.set_cons_succ])
      refine wpAnyL_last (w' := w4.setCell ⟨R, 1, none⟩ (.slice A3 m3 c3)) (by kernel_rfl) rfl (by kernel_rfl) (by kernel_rfl) (by go_simp) ?_
      (try simp only [Act.put, List.getElem_toArray, List.getElem_cons_succ, List.getElem_cons_zero, List.setIfInBounds_toArray, List.set_cons_zero, List.set_cons_succ])
      obtain ⟨W1, hW1⟩ : ∃ W1, w4.setCell ⟨R, 1, none⟩ (.slice A3 m3 c3) = W1 := ⟨_, rfl⟩
      rw [hW1] at hb1 hk1 hk2 hk3 hbs1 Hmv ⊢
      have hb1' : Blk W1 R 72 #[.slice TA 0 tc', .slice A3 m3 c3, vv, tv, .int .i64 N1, .int .i64 (C : Int), .bool false] := hb1
      clear hHeld hcS hcut3 hcut1 hrun2 hrun3 hS1 hS2 hS3 hfz hW1 hb1
      go_wp2
      -- the values
      obtain ⟨B, d, B2, n2, d2, w5, B3, n3, d3, w6, rfl, hcS, hcut3, hcut1, hrun2, hrun3, hS1, hS2, hS3, hfz, hb2, hl2, hrows, hmv, hbs2, hlow2⟩ := list_ins Try.underlying70 info9 rfl (by decide) Try.sizeOf9 hb1' 2 rfl hk2 hbs1 hFN (.string ⟨v.toArray⟩) rfl (by intro x hx; obtain ⟨d, _, rfl⟩ := List.mem_map.1 hx; rfl) (by omega)
      have hl1 := hrows _ _ _ _ _ (by decide) hk1
      have hl3 := hrows _ _ _ _ _ (by decide) hk3
      have hl2 := hl2 (by decide)
      have Hmv2 := hide hmv
      have Hlow2 := hide hlow2
      have Hlt1 := hide (fun g hg => (owns_ltG hk1 (g := g) hg).2)
      clear hmv hlow2 hrows hk1 hk2 hk3 hb1'
      refine region_last 20 (S := fun W' => W'.cell? ⟨R, 2, none⟩ = some (.slice B N d)) (by kernel_rfl) (hcS) (fun hHeld => ?_)
      refine wpAnyL_take (i := 0) (v := ?_) rfl (by kernel_rfl) (by kernel_rfl) (by kernel_rfl) (by kernel_rfl) (fun _ _ _ h => h) (Or.inl ⟨by kernel_rfl, ?_⟩) (by assumption) ?_
      rotate_left
      · (intro w hSw; (try dsimp only at hSw); go_simp; try with_reducible rfl)
      (try simp only [Act.put, List.getElem_toArray, List.getElem_cons_succ, List.getElem_cons_zero, List.setIfInBounds_toArray, List.set_cons_zero, List.set_cons_succ])
      refine wpAnyL_take (i := 1) (v := ?_) rfl (by kernel_rfl) (by kernel_rfl) (by kernel_rfl) (by kernel_rfl) (fun _ _ _ h => h) (Or.inl ⟨by kernel_rfl, ?_⟩) (by assumption) ?_
      rotate_left
      · (intro w hSw; (try dsimp only at hSw); go_simp; try with_reducible rfl)
      (try simp only [Act.put, List.getElem_toArray, List.getElem_cons_succ, List.getElem_cons_zero, List.setIfInBounds_toArray, List.set_cons_zero, List.set_cons_succ])
      refine wpAnyL_take (i := 2) (v := ?_) rfl (by kernel_rfl) (by kernel_rfl) (by kernel_rfl) (by kernel_rfl) (fun _ _ _ h => h) (Or.inl ⟨by kernel_rfl, ?_⟩) (by assumption) ?_
      rotate_left
      · (intro w hSw; (try dsimp only at hSw); go_simp; try with_reducible rfl)
      (try simp only [Act.put, List.getElem_toArray, List.getElem_cons_succ, List.getElem_cons_zero, List.setIfInBounds_toArray, List.set_cons_zero, List.set_cons_succ])
      refine wpAnyL_take (i := 3) (v := ?_) rfl (by kernel_rfl) (by kernel_rfl) (by kernel_rfl) (by kernel_rfl) (fun _ _ _ h => h) (Or.inl ⟨by kernel_rfl, ?_⟩) (by assumption) ?_
      rotate_left
      · (intro w hSw; (try dsimp only at hSw); go_simp; try with_reducible rfl)
      (try simp only [Act.put, List.getElem_toArray, List.getElem_cons_succ, List.getElem_cons_zero, List.setIfInBounds_toArray, List.set_cons_zero, List.set_cons_succ])
      refine wpAnyL_take (i := 4) (v := ?_) rfl (by kernel_rfl) (by kernel_rfl) (by kernel_rfl) (by kernel_rfl) (fun _ _ _ h => h) (Or.inl ⟨by kernel_rfl, ?_⟩) (by assumption) ?_
      rotate_left
      · (intro w hSw; (try dsimp only at hSw); go_simp; try with_reducible rfl)
      (try simp only [Act.put, List.getElem_toArray, List.getElem_cons_succ, List.getElem_cons_zero, List.setIfInBounds_toArray, List.set_cons_zero, List.set_cons_succ])
      refine wpAnyL_take (i := 5) (v := ?_) rfl (by kernel_rfl) (by kernel_rfl) (by kernel_rfl) (by kernel_rfl) (fun _ _ _ h => h) (Or.inl ⟨by kernel_rfl, ?_⟩) (by assumption) ?_
      rotate_left
      · (intro w hSw; (try dsimp only at hSw); go_simp; try with_reducible rfl)
      (try simp only [Act.put, List.getElem_toArray, List.getElem_cons_succ, List.getElem_cons_zero, List.setIfInBounds_toArray, List.set_cons_zero, List.set_cons_succ])
      refine wpAnyL_take (i := 6) (v := ?_) rfl (by kernel_rfl) (by kernel_rfl) (by kernel_rfl) (by kernel_rfl) (fun _ _ _ h => h) (Or.inl ⟨by kernel_rfl, ?_⟩) (by assumption) ?_
      rotate_left
      · (intro w hSw; (try dsimp only at hSw); go_simp; try with_reducible rfl)
      (try simp only [Act.put, List.getElem_toArray, List.getElem_cons_succ, List.getElem_cons_zero, List.setIfInBounds_toArray, List.set_cons_zero, List.set_cons_succ])
      refine wpAnyL_take (i := 7) (v := ?_) rfl (by kernel_rfl) (by kernel_rfl) (by kernel_rfl) (by kernel_rfl) (fun _ _ _ h => h) (Or.inl ⟨by kernel_rfl, ?_⟩) (by assumption) ?_
      rotate_left
      · (intro w hSw; (try dsimp only at hSw); go_simp; try with_reducible rfl)
      (try simp only [Act.put, List.getElem_toArray, List.getElem_cons_succ, List.getElem_cons_zero, List.setIfInBounds_toArray, List.set_cons_zero, List.set_cons_succ])
      refine wpAnyL_take (i := 8) (v := ?_) rfl (by kernel_rfl) (by kernel_rfl) (by kernel_rfl) (by kernel_rfl) (fun _ _ _ h => h) (Or.inl ⟨by kernel_rfl, ?_⟩) (by assumption) ?_
      rotate_left
      · (intro w hSw; (try dsimp only at hSw); go_simp; try with_reducible rfl)
      (try simp only [Act.put, List.getElem_toArray, List.getElem_cons_succ, List.getElem_cons_zero, List.setIfInBounds_toArray, List.set_cons_zero, List.set_cons_succ])
      refine wpAnyL_take (i := 10) (v := ?_) rfl (by kernel_rfl) (by kernel_rfl) (by kernel_rfl) (by kernel_rfl) (fun _ _ _ h => h) (Or.inl ⟨by kernel_rfl, ?_⟩) (by assumption) ?_
      rotate_left
      · (intro w hSw; (try dsimp only at hSw); go_simp; try with_reducible rfl)
      (try simp only [Act.put, List.getElem_toArray, List.getElem_cons_succ, List.getElem_cons_zero, List.setIfInBounds_toArray, List.set_cons_zero, List.set_cons_succ])
      refine wpAnyL_take (i := 11) (v := ?_) rfl (by kernel_rfl) (by kernel_rfl) (by kernel_rfl) (by kernel_rfl) (fun _ _ _ h => h) (Or.inl ⟨by kernel_rfl, ?_⟩) (by assumption) ?_
      rotate_left
      · (intro w hSw; (try dsimp only at hSw); go_simp; try with_reducible rfl)
      (try simp only [Act.put, List.getElem_toArray, List.getElem_cons_succ, List.getElem_cons_zero, List.setIfInBounds_toArray, List.set_cons_zero, List.set_cons_succ])
      refine wpAnyL_take (i := 12) (v := ?_) rfl (by kernel_rfl) (by kernel_rfl) (by kernel_rfl) (by kernel_rfl) (fun _ _ _ h => h) (Or.inl ⟨by kernel_rfl, ?_⟩) (by assumption) ?_
      rotate_left
      · (intro w hSw; (try dsimp only at hSw); go_simp; try with_reducible rfl)
      (try simp only [Act.put, List.getElem_toArray, List.getElem_cons_succ, List.getElem_cons_zero, List.setIfInBounds_toArray, List.set_cons_zero, List.set_cons_succ])
      refine wpAnyL_take (i := 13) (v := ?_) rfl (by kernel_rfl) (by kernel_rfl) (by kernel_rfl) (by kernel_rfl) (fun _ _ _ h => h) (Or.inl ⟨by kernel_rfl, ?_⟩) (by assumption) ?_
      rotate_left
      · (intro w hSw; (try dsimp only at hSw); go_simp; try with_reducible rfl)
      (try simp only [Act.put, List.getElem_toArray, List.getElem_cons_succ, List.getElem_cons_zero, List.setIfInBounds_toArray, List.set_cons_zero, List.set_cons_succ])
      refine wpAnyL_take (i := 14) (v := ?_) rfl (by kernel_rfl) (by kernel_rfl) (by kernel_rfl) (by kernel_rfl) (fun _ _ _ h => h) (Or.inl ⟨by kernel_rfl, ?_⟩) (by assumption) ?_
      rotate_left
      · (intro w hSw; (try dsimp only at hSw); go_simp; try with_reducible rfl)
      (try simp only [Act.put, List.getElem_toArray, List.getElem_cons_succ, List.getElem_cons_zero, List.setIfInBounds_toArray, List.set_cons_zero, List.set_cons_succ])
      refine wpAnyL_take (i := 15) (v := ?_) rfl (by kernel_rfl) (by kernel_rfl) (by kernel_rfl) (by kernel_rfl) (fun _ _ _ h => h) (Or.inl ⟨by kernel_rfl, ?_⟩) (by assumption) ?_
      rotate_left
      · (intro w hSw; (try dsimp only at hSw); go_simp; try with_reducible rfl)
      (try simp only [Act.put, List.getElem_toArray, List.getElem_cons_succ, List.getElem_cons_zero, List.setIfInBounds_toArray, List.set_cons_zero, List.set_cons_succ])
      refine wpAnyL_ready (i := 9) (by kernel_rfl) rfl (fun K hK => ?_)
      go_simp
      refine hK.out _ _ (hS1) (fun hHeld => ?_)
      clear hK K
      (try simp only [Act.put, List.getElem_toArray, List.getElem_cons_succ, List.getElem_cons_zero, List.setIfInBounds_toArray, List.set_cons_zero, List.set_cons_succ])
      refine wpAnyL_ready (i := 16) (by kernel_rfl) rfl (fun K hK => ?_)
      refine step_append (by kernel_rfl) rfl rfl rfl hrun2 ?_
      refine hK.out _ _ (hS2) (fun hHeld => ?_)
      clear hK K
      (try simp only [Act.put, List.getElem_toArray, List.getElem_cons_succ, List.getElem_cons_zero, List.setIfInBounds_toArray, List.set_cons_zero, List.set_cons_succ])
      refine wpAnyL_ready (i := 17) (by kernel_rfl) rfl (fun K hK => ?_)
      refine step_append (by kernel_rfl) rfl rfl rfl hrun3 ?_
      refine hK.out _ _ (hS3) (fun hHeld => ?_)
      clear hK K
      (try simp only [Act.put, List.getElem_toArray, List.getElem_cons_succ, List.getElem_cons_zero, List.setIfInBounds_toArray, List.set_cons_zero, List.set_cons_succ])
      refine wpAnyL_ready (i := 18) (by kernel_rfl) rfl (fun K hK => ?_)
      go_simp
      refine hK.out _ _ (hS3) (fun hHeld => ?_)
      clear hK K
      (try simp only [Act.put, List.getElem_toArray, List.getElem_cons_succ, List.getElem_cons_zero, List.setIfInBounds_toArray, List.set_cons_zero, List.set_cons_succ])
      refine wpAnyL_take (i := 19) (v := ?_) rfl (by kernel_rfl) (by kernel_rfl) (by kernel_rfl) (by kernel_rfl) (fun _ _ _ h => h) (Or.inl ⟨by kernel_rfl, ?_⟩) (by assumption) ?_
      rotate_left
      · (intro w hSw; (try dsimp only at hSw); go_simp; try with_reducible rfl)
      (try simp only [Act.put, List.getElem_toArray, List.getElem_cons_succ, List.getElem_cons_zero, List.setIfInBounds_toArray, List.set_cons_zero, List.set_cons_succ])
      refine wpAnyL_last (w' := w6.setCell ⟨R, 2, none⟩ (.slice B3 n3 d3)) (by kernel_rfl) rfl (by kernel_rfl) (by kernel_rfl) (by go_simp) ?_
      (try simp only [Act.put, List.getElem_toArray, List.getElem_cons_succ, List.getElem_cons_zero, List.setIfInBounds_toArray, List.set_cons_zero, List.set_cons_succ])
      obtain ⟨W2, hW2⟩ : ∃ W2, w6.setCell ⟨R, 2, none⟩ (.slice B3 n3 d3) = W2 := ⟨_, rfl⟩
      rw [hW2] at hb2 hl1 hl2 hl3 hbs2 Hmv2 ⊢
      have hb2' : Blk W2 R 72 #[.slice TA 0 tc', .slice A3 m3 c3, .slice B3 n3 d3, tv, .int .i64 N1, .int .i64 (C : Int), .bool false] := hb2
      clear hHeld hcS hcut3 hcut1 hrun2 hrun3 hS1 hS2 hS3 hfz hW2 hb2
      go_wp2
      -- the towers
      obtain ⟨E, f, E2, o2, f2, w7, E3, o3, f3, w8, rfl, hcS, hcut3, hcut1, hrun2, hrun3, hS1, hS2, hS3, hfz, hb3, hj3, hrows, hmv, hbs3, hlow3⟩ := list_ins Try.underlying27 info3 rfl (by decide) Try.sizeOf3 hb2' 3 rfl hl3 hbs2 hFN (.int .i64 1) rfl (by intro x hx; obtain ⟨d, _, rfl⟩ := List.mem_map.1 hx; rfl) (by omega)
      have hj1 := hrows _ _ _ _ _ (by decide) hl1
      have hj2 := hrows _ _ _ _ _ (by decide) hl2
      have hj3 := hj3 (by decide)
      have Hmv3 := hide hmv
      clear hmv hlow3 hrows hl1 hl2 hl3 hb2'
      refine region_last 20 (S := fun W' => W'.cell? ⟨R, 3, none⟩ = some (.slice E N f)) (by kernel_rfl) (hcS) (fun hHeld => ?_)
      refine wpAnyL_take (i := 0) (v := ?_) rfl (by kernel_rfl) (by kernel_rfl) (by kernel_rfl) (by kernel_rfl) (fun _ _ _ h => h) (Or.inl ⟨by kernel_rfl, ?_⟩) (by assumption) ?_
      rotate_left
      · (intro w hSw; (try dsimp only at hSw); go_simp; try with_reducible rfl)
      (try simp only [Act.put, List.getElem_toArray, List.getElem_cons_succ, List.getElem_cons_zero, List.setIfInBounds_toArray, List.set_cons_zero, List.set_cons_succ])
      refine wpAnyL_take (i := 1) (v := ?_) rfl (by kernel_rfl) (by kernel_rfl) (by kernel_rfl) (by kernel_rfl) (fun _ _ _ h => h) (Or.inl ⟨by kernel_rfl, ?_⟩) (by assumption) ?_
      rotate_left
      · (intro w hSw; (try dsimp only at hSw); go_simp; try with_reducible rfl)
      (try simp only [Act.put, List.getElem_toArray, List.getElem_cons_succ, List.getElem_cons_zero, List.setIfInBounds_toArray, List.set_cons_zero, List.set_cons_succ])
      refine wpAnyL_take (i := 2) (v := ?_) rfl (by kernel_rfl) (by kernel_rfl) (by kernel_rfl) (by kernel_rfl) (fun _ _ _ h => h) (Or.inl ⟨by kernel_rfl, ?_⟩) (by assumption) ?_
      rotate_left
      · (intro w hSw; (try dsimp only at hSw); go_simp; try with_reducible rfl)
      (try simp only [Act.put, List.getElem_toArray, List.getElem_cons_succ, List.getElem_cons_zero, List.setIfInBounds_toArray, List.set_cons_zero, List.set_cons_succ])
      refine wpAnyL_take (i := 3) (v := ?_) rfl (by kernel_rfl) (by kernel_rfl) (by kernel_rfl) (by kernel_rfl) (fun _ _ _ h => h) (Or.inl ⟨by kernel_rfl, ?_⟩) (by assumption) ?_
      rotate_left
      · (intro w hSw; (try dsimp only at hSw); go_simp; try with_reducible rfl)
      (try simp only [Act.put, List.getElem_toArray, List.getElem_cons_succ, List.getElem_cons_zero, List.setIfInBounds_toArray, List.set_cons_zero, List.set_cons_succ])
      refine wpAnyL_take (i := 4) (v := ?_) rfl (by kernel_rfl) (by kernel_rfl) (by kernel_rfl) (by kernel_rfl) (fun _ _ _ h => h) (Or.inl ⟨by kernel_rfl, ?_⟩) (by assumption) ?_
      rotate_left
      · (intro w hSw; (try dsimp only at hSw); go_simp; try with_reducible rfl)
      (try simp only [Act.put, List.getElem_toArray, List.getElem_cons_succ, List.getElem_cons_zero, List.setIfInBounds_toArray, List.set_cons_zero, List.set_cons_succ])
      refine wpAnyL_take (i := 5) (v := ?_) rfl (by kernel_rfl) (by kernel_rfl) (by kernel_rfl) (by kernel_rfl) (fun _ _ _ h => h) (Or.inl ⟨by kernel_rfl, ?_⟩) (by assumption) ?_
      rotate_left
      · (intro w hSw; (try dsimp only at hSw); go_simp; try with_reducible rfl)
      (try simp only [Act.put, List.getElem_toArray, List.getElem_cons_succ, List.getElem_cons_zero, List.setIfInBounds_toArray, List.set_cons_zero, List.set_cons_succ])
      refine wpAnyL_take (i := 6) (v := ?_) rfl (by kernel_rfl) (by kernel_rfl) (by kernel_rfl) (by kernel_rfl) (fun _ _ _ h => h) (Or.inl ⟨by kernel_rfl, ?_⟩) (by assumption) ?_
      rotate_left
      · (intro w hSw; (try dsimp only at hSw); go_simp; try with_reducible rfl)
      (try simp only [Act.put, List.getElem_toArray, List.getElem_cons_succ, List.getElem_cons_zero, List.setIfInBounds_toArray, List.set_cons_zero, List.set_cons_succ])
      refine wpAnyL_take (i := 7) (v := ?_) rfl (by kernel_rfl) (by kernel_rfl) (by kernel_rfl) (by kernel_rfl) (fun _ _ _ h => h) (Or.inl ⟨by kernel_rfl, ?_⟩) (by assumption) ?_
      rotate_left
      · (intro w hSw; (try dsimp only at hSw); go_simp; try with_reducible rfl)
      (try simp only [Act.put, List.getElem_toArray, List.getElem_cons_succ, List.getElem_cons_zero, List.setIfInBounds_toArray, List.set_cons_zero, List.set_cons_succ])
      refine wpAnyL_take (i := 8) (v := ?_) rfl (by kernel_rfl) (by kernel_rfl) (by kernel_rfl) (by kernel_rfl) (fun _ _ _ h => h) (Or.inl ⟨by kernel_rfl, ?_⟩) (by assumption) ?_
      rotate_left
      · (intro w hSw; (try dsimp only at hSw); go_simp; try with_reducible rfl)
      (try simp only [Act.put, List.getElem_toArray, List.getElem_cons_succ, List.getElem_cons_zero, List.setIfInBounds_toArray, List.set_cons_zero, List.set_cons_succ])
      refine wpAnyL_take (i := 10) (v := ?_) rfl (by kernel_rfl) (by kernel_rfl) (by kernel_rfl) (by kernel_rfl) (fun _ _ _ h => h) (Or.inl ⟨by kernel_rfl, ?_⟩) (by assumption) ?_
      rotate_left
      · (intro w hSw; (try dsimp only at hSw); go_simp; try with_reducible rfl)
      (try simp only [Act.put, List.getElem_toArray, List.getElem_cons_succ, List.getElem_cons_zero, List.setIfInBounds_toArray, List.set_cons_zero, List.set_cons_succ])
      refine wpAnyL_take (i := 11) (v := ?_) rfl (by kernel_rfl) (by kernel_rfl) (by kernel_rfl) (by kernel_rfl) (fun _ _ _ h => h) (Or.inl ⟨by kernel_rfl, ?_⟩) (by assumption) ?_
      rotate_left
      · (intro w hSw; (try dsimp only at hSw); go_simp; try with_reducible rfl)
      (try simp only [Act.put, List.getElem_toArray, List.getElem_cons_succ, List.getElem_cons_zero, List.setIfInBounds_toArray, List.set_cons_zero, List.set_cons_succ])
      refine wpAnyL_take (i := 12) (v := ?_) rfl (by kernel_rfl) (by kernel_rfl) (by kernel_rfl) (by kernel_rfl) (fun _ _ _ h => h) (Or.inl ⟨by kernel_rfl, ?_⟩) (by assumption) ?_
      rotate_left
      · (intro w hSw; (try dsimp only at hSw); go_simp; try with_reducible rfl)
      (try simp only [Act.put, List.getElem_toArray, List.getElem_cons_succ, List.getElem_cons_zero, List.setIfInBounds_toArray, List.set_cons_zero, List.set_cons_succ])
      refine wpAnyL_take (i := 13) (v := ?_) rfl (by kernel_rfl) (by kernel_rfl) (by kernel_rfl) (by kernel_rfl) (fun _ _ _ h => h) (Or.inl ⟨by kernel_rfl, ?_⟩) (by assumption) ?_
      rotate_left
      · (intro w hSw; (try dsimp only at hSw); go_simp; try with_reducible rfl)
      (try simp only [Act.put, List.getElem_toArray, List.getElem_cons_succ, List.getElem_cons_zero, List.setIfInBounds_toArray, List.set_cons_zero, List.set_cons_succ])
      refine wpAnyL_take (i := 14) (v := ?_) rfl (by kernel_rfl) (by kernel_rfl) (by kernel_rfl) (by kernel_rfl) (fun _ _ _ h => h) (Or.inl ⟨by kernel_rfl, ?_⟩) (by assumption) ?_
      rotate_left
      · (intro w hSw; (try dsimp only at hSw); go_simp; try with_reducible rfl)
      (try simp only [Act.put, List.getElem_toArray, List.getElem_cons_succ, List.getElem_cons_zero, List.setIfInBounds_toArray, List.set_cons_zero, List.set_cons_succ])
      refine wpAnyL_take (i := 15) (v := ?_) rfl (by kernel_rfl) (by kernel_rfl) (by kernel_rfl) (by kernel_rfl) (fun _ _ _ h => h) (Or.inl ⟨by kernel_rfl, ?_⟩) (by assumption) ?_
      rotate_left
      · (intro w hSw; (try dsimp only at hSw); go_simp; try with_reducible rfl)
      (try simp only [Act.put, List.getElem_toArray, List.getElem_cons_succ, List.getElem_cons_zero, List.setIfInBounds_toArray, List.set_cons_zero, List.set_cons_succ])
      refine wpAnyL_ready (i := 9) (by kernel_rfl) rfl (fun K hK => ?_)
      go_simp
      refine hK.out _ _ (hS1) (fun hHeld => ?_)
      clear hK K
      (try simp only [Act.put, List.getElem_toArray, List.getElem_cons_succ, List.getElem_cons_zero, List.setIfInBounds_toArray, List.set_cons_zero, List.set_cons_succ])
      refine wpAnyL_ready (i := 16) (by kernel_rfl) rfl (fun K hK => ?_)
      refine step_append (by kernel_rfl) rfl rfl rfl hrun2 ?_
      refine hK.out _ _ (hS2) (fun hHeld => ?_)
      clear hK K
      (try simp only [Act.put, List.getElem_toArray, List.getElem_cons_succ, List.getElem_cons_zero, List.setIfInBounds_toArray, List.set_cons_zero, List.set_cons_succ])
      refine wpAnyL_ready (i := 17) (by kernel_rfl) rfl (fun K hK => ?_)
      refine step_append (by kernel_rfl) rfl rfl rfl hrun3 ?_
      refine hK.out _ _ (hS3) (fun hHeld => ?_)
      clear hK K
      (try simp only [Act.put, List.getElem_toArray, List.getElem_cons_succ, List.getElem_cons_zero, List.setIfInBounds_toArray, List.set_cons_zero, List.set_cons_succ])
      refine wpAnyL_ready (i := 18) (by kernel_rfl) rfl (fun K hK => ?_)
      go_simp
      refine hK.out _ _ (hS3) (fun hHeld => ?_)
      clear hK K
      (try simp only [Act.put, List.getElem_toArray, List.getElem_cons_succ, List.getElem_cons_zero, List.setIfInBounds_toArray, List.set_cons_zero, List.set_cons_succ])
      refine wpAnyL_take (i := 19) (v := ?_) rfl (by kernel_rfl) (by kernel_rfl) (by kernel_rfl) (by kernel_rfl) (fun _ _ _ h => h) (Or.inl ⟨by kernel_rfl, ?_⟩) (by assumption) ?_
      rotate_left
      · (intro w hSw; (try dsimp only at hSw); go_simp; try with_reducible rfl)
      (try simp only [Act.put, List.getElem_toArray, List.getElem_cons_succ, List.getElem_cons_zero, List.setIfInBounds_toArray, List.set_cons_zero, List.set_cons_succ])
      refine wpAnyL_last (w' := w8.setCell ⟨R, 3, none⟩ (.slice E3 o3 f3)) (by kernel_rfl) rfl (by kernel_rfl) (by kernel_rfl) (by go_simp) ?_
      (try simp only [Act.put, List.getElem_toArray, List.getElem_cons_succ, List.getElem_cons_zero, List.setIfInBounds_toArray, List.set_cons_zero, List.set_cons_succ])
      obtain ⟨W3, hW3⟩ : ∃ W3, w8.setCell ⟨R, 3, none⟩ (.slice E3 o3 f3) = W3 := ⟨_, rfl⟩
      rw [hW3] at hb3 hj1 hj2 hj3 hbs3 Hmv3 ⊢
      have hb3' : Blk W3 R 72 #[.slice TA 0 tc', .slice A3 m3 c3, .slice B3 n3 d3, .slice E3 o3 f3, .int .i64 N1, .int .i64 (C : Int), .bool false] := hb3
      clear hHeld hcS hcut3 hcut1 hrun2 hrun3 hS1 hS2 hS3 hfz hW3 hb3
      go_wp2
      go_ret
      have hFl : F ≤ ns.length := by rw [HN.out]; exact hFN
      have hlen : (ins ns F ⟨k, v, 1⟩).length = N + 1 := by rw [ins_len hFl, HN.out]
      refine ⟨rfl, ⟨.slice A3 m3 c3, .slice B3 n3 d3, .slice E3 o3 f3, ?_, ?_, ?_⟩, ?_⟩
      · rw [HN.out, He1.out, Hput'.out]
        refine Rt.of_parts ?_ ?_ ?_ ?_
        · rw [hlen, HC.out, show ((N + 1 : Nat) : Int) = N1 by have := HN1.out; omega]
          exact hb3'
        · rw [hlen, ins_map]; exact hj1
        · rw [hlen, ins_map]; exact hj2
        · rw [hlen, ins_map]; exact hj3
      · right
        intro e
        cases hA : (Value.slice A3 m3 c3).ownBlock with
        | none => rw [hA] at e; cases hB : (Value.slice B3 n3 d3).ownBlock with
          | none => exact absurd hA (by
              have := hj1.2
              rcases this with ⟨_, h0⟩ | ⟨g, cap, cur, e9, _⟩
              · omega
              · rw [e9]; intro h; cases h)
          | some g => rw [hB] at e; cases e
        | some g =>
          have h1 := Hlt1.out g hA
          have h2 := Hlow2.out g (e.symm.trans hA)
          omega
      · intro g hg
        right
        have h1 := Hlow2.out g hg
        have h2 := Hmv.out.size
        have h3 := hmW.out.size
        omega
      · exact (((hmW.out.trans Hmv.out).trans Hmv2.out).trans Hmv3.out).mono (fun g hg => .inl hg)

end Go.Proofs.Ytkbjbjkgohkkjaa
