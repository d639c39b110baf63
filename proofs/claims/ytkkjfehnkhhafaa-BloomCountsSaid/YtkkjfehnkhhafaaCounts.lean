/-
  The walk of the law BloomCounts: it answers true. Condition: both slices read, the second of at most so many elements as memory holds.
-/
import Derived.Test.YtkkjfehnkhhafaaFilter
import Derived.Deep.Onto
namespace Go.Proofs.Ytkkjfehnkhhafaa
open Go.RowKit Go.Shelf

theorem own_below {w w' : World} {base g B n cap size : Nat} {e : TypeId} {xs : List Value} (h : w.ownsRow base e size (.slice (some ⟨g, 0, none⟩) n cap) n xs) (hb : Below B w w') (hg : g < B) : w'.ownsRow base e size (.slice (some ⟨g, 0, none⟩) n cap) n xs := by
  refine ⟨h.1, ?_⟩
  rcases h.2 with ⟨h', _⟩ | ⟨g', cap', cur, h', r1, r2, r3⟩
  · simp at h'
  · simp only [Value.slice.injEq, Option.some.injEq, Addr.mk.injEq, and_true, true_and] at h'
    obtain ⟨rfl, rfl⟩ := h'
    exact .inr ⟨g, cap, cur, rfl, r1, (hb.block g hg).trans r2, r3⟩
theorem bs_of_row {w : World} {B g n c : Nat} {A : Option Addr} {ks : List UInt8} (hl : ks.length = n) (hr : n ≤ 140737488351232) (hc : n ≤ c) (h : n = 0 ∨ ∃ g, A = some ⟨g, 0, none⟩ ∧ g < B ∧ RowAt w g (ks.map b8)) : Bs w B A n c ks := by
  refine ⟨by simpa using hl, hc, hr, fun hne => ?_⟩
  rcases h with h0 | ⟨g, rfl, hg, hrow⟩
  · exact absurd (List.eq_nil_of_length_eq_zero (by simp [hl, h0])) hne
  · exact ⟨g, 0, rfl, hg, fun j u hu => by rw [Nat.zero_add]; exact hrow j u hu⟩

/-- append of bytes to a nil slice: nil or a row of the call's own -/
theorem run_append_bytes (ks : List UInt8) (A : Option Addr) (n c B : Nat) (w : World) (h : Bs w B A n c ks) (hB : B ≤ w.heap.size) (hn : n ≤ 140737488351232) :
    ∃ MA mc w', (Builtin.append_ #[25, 25] 25 #[.slice none 0 0, .slice A n c]).run Try.prog w = .ok (.slice MA n mc) w' ∧ (n = 0 ∨ ∃ g, MA = some ⟨g, 0, none⟩ ∧ w.heap.size ≤ g ∧ g < w'.heap.size ∧ w'.ownsRow w.heap.size 5 1 (.slice MA n mc) n (ks.map b8)) ∧ n ≤ mc ∧ Below w.heap.size w w' := by
  obtain ⟨i0, hi, hz0, hz1, hz2⟩ := info_parts info5
  have hlen := h.len
  cases A with
  | none =>
    have hn0 : n = 0 := by
      rcases Nat.eq_zero_or_pos n with h0 | h0
      · exact h0
      · obtain ⟨b, off, e, _⟩ := h.at_ h0; cases e
    subst hn0
    refine ⟨none, 0, w, ?_, .inl rfl, Nat.le_refl _, Below.refl _ _⟩
    simp [Builtin.append_, run_underlying Try.underlying25, sizeOf, typeInfo, hi, Builtin.lenOf, Builtin.firstCells]
  | some a =>
    have hc : ∀ j u, (ks.map b8)[j]? = some u → w.cell? (a.add j) = some u := by
      intro j u hj
      obtain ⟨b, off, e, hb, hcc⟩ := (Sl.row h) (by intro e; rw [e] at hj; cases hj)
      injection e with e
      subst e
      rw [Addr.add_lit]
      exact hcc j u hj
    obtain ⟨v', w', hr, hown, hg, _, _⟩ := run_append_own_at (P := Try.prog) w w.heap.size 25 25 5 i0 (.int .u8 0) 1 1 Try.underlying25 hi hz0 hz1 hz2 rfl (by decide) (.slice none 0 0) 0 [] ⟨rfl, .inl ⟨rfl, rfl⟩⟩ a n c (ks.map b8) (by simp [hlen]) hc (by intro u hu; obtain ⟨x, _, rfl⟩ := List.mem_map.1 hu; rfl) (by unfold maxLen; omega) (by omega) (Nat.le_refl _)
    simp only [Nat.zero_add, List.nil_append] at hown
    have hbl : Below w.heap.size w w' := (Below.refl _ w).grown hg (Nat.le_refl _) (by intro k hk; simp [Value.ownBlock] at hk)
    rcases Nat.eq_zero_or_pos n with h0 | h0
    · subst h0
      rcases hown.2 with ⟨rfl, _⟩ | ⟨g, cap, cur, rfl, _, _, hc2, _⟩
      · exact ⟨none, 0, w', hr, .inl rfl, Nat.le_refl _, hbl⟩
      · exact ⟨_, cap, w', hr, .inl rfl, hc2, hbl⟩
    · obtain ⟨g, cp, rfl, hg1, hg2⟩ := hown.form h0
      obtain ⟨_, _, e, _, hnc, _⟩ := own_row hown h0
      injection e with e1 e2 e3
      exact ⟨_, cp, w', hr, .inr ⟨g, rfl, hg1, hg2, hown⟩, by omega, hbl⟩

theorem wpList_append_run {P : Program} {w w' : World} {ops : Array Oper} {rest : List Oper} {o : Oper} {a : Act} {Q : Exit → Act → World → Prop} (hgd : o.guard = none) (s x : Operand) (t : TypeId)
    (ho : o.op = .call { callee := .builtin .append, args := #[s, x], argTypes := #[t, t] }) (v u r : Value) (hs : a.eval s = v) (hx : a.eval x = u)
    (hr : (Builtin.append_ #[t, t] o.type #[v, u]).run P w = .ok r w') (h : wpList P ops Q rest (a.put o.dst r) w') : wpList P ops Q (o :: rest) a w :=
  wpList_plain hgd fun _ hK => by
    unfold Oper.wp execOp
    simp only [ho, resolve, invoke, builtin, Sem.run_bind, Sem.run_pure, Result.andThen_ok, List.map_toArray, List.map_cons, List.map_nil, hs, hx, hr]
    exact hK _ _ h

set_option maxRecDepth 100000 in
set_option maxHeartbeats 4000000 in
theorem counts_any (fs : List UInt8) (FA : Option Addr) (fn fc : Nat) (kss : List (List UInt8)) (A : Option Addr) (n c : Nat) (w : World) (hf : Bs w w.heap.size FA fn fc fs) (h : Bss w w.heap.size A n c kss) (hn : n ≤ 5864062014634) :
    Calls Try.prog 6 #[.slice FA fn fc, .slice A n c] w fun e w' => e = .returned (.bool true) ∧ Below w.heap.size w w' := by
  have hfl := hide hf.len
  have hlen := hide h.len
  go_enter Try.func6, Try.ntmps6
  go_wp2_with fail
  refine (awake_any w).mono ?_
  rintro e w1 ⟨rfl, hB1⟩
  have hs1 := hB1.size
  go_wp2_with fail
  refine (few_any kss A n c w.heap.size w1 hn (h.below hB1)).mono ?_
  rintro e w2 ⟨bv, rfl, rfl⟩
  cases bv
  · go_wp2
    go_ret
    exact ⟨rfl, hB1⟩
  by_cases h3 : 3000 < fn
  · go_wp2
    go_ret
    exact ⟨rfl, hB1⟩
  obtain ⟨MA, mc, w3, hrun, hmine, hmc, hB3⟩ := run_append_bytes fs FA fn fc w.heap.size w2 (hf.below hB1) hs1 (by omega)
  have hB3' := hB1.trans (hB3.mono hs1)
  have hs3 := hB3.size
  have hbm : Bs w3 w3.heap.size MA fn mc fs := bs_of_row (g := 0) hfl.out (by omega) hmc (hmine.imp id fun ⟨g, e, _, h2, h3⟩ => ⟨g, e, h2, by
    subst e
    intro j u hu
    have := h3.cells (g := g) rfl j u hu
    simpa [Addr.add_lit] using this⟩)
  have Hrun := hide hrun
  clear hrun
  go_wp2_with (at_builtin; refine wpList_append_run rfl _ _ 25 rfl _ _ _ rfl rfl Hrun.out ?_)
  go_wp2_with fail
  refine (new_any fs MA fn mc w3.heap.size w3 hbm (Nat.le_refl _) (by omega)).mono ?_
  rintro e w4 ⟨F, A4, c4, rfl, hF4, hflt, hrow, hc4, hB4⟩
  have hB4' := hB3'.trans (hB4.mono (by omega))
  have hrow0 : fn = 0 ∨ ∃ g, A4 = some ⟨g, 0, none⟩ ∧ w3.heap.size ≤ g ∧ g < F ∧ RowAt w4 g (fs.map b8) := hrow
  have hm0 : fn = 0 ∨ ∃ (g : Nat) (zs : List Value), MA = some ⟨g, 0, none⟩ ∧ w.heap.size ≤ g ∧ g < w3.heap.size ∧ w4.ownsRow w2.heap.size 5 1 (.slice (some ⟨g, 0, none⟩) fn mc) fn zs := by
    rcases hmine with h0 | ⟨g, rfl, h1, h2, h3⟩
    · exact .inl h0
    · exact .inr ⟨g, _, rfl, by omega, h2, own_below h3 hB4 h2⟩
  clear hmine hrow Hrun hbm
  go_wp2
  go_loopw [37] (fun i wq => ∃ k : Nat, k ≤ fn ∧ i = .int .i64 (k : Int) ∧ (fn = 0 ∨ ∃ (g : Nat) (zs : List Value), MA = some ⟨g, 0, none⟩ ∧ w.heap.size ≤ g ∧ g < w3.heap.size ∧ wq.ownsRow w2.heap.size 5 1 (.slice (some ⟨g, 0, none⟩) fn mc) fn zs) ∧
      Flt wq F A4 fn c4 0 0 ∧ (fn = 0 ∨ ∃ g, A4 = some ⟨g, 0, none⟩ ∧ w3.heap.size ≤ g ∧ g < F ∧ RowAt wq g (fs.map b8)) ∧ Below w.heap.size w wq) (fun i _ => fn - (intOf i).toNat)
  case atStart => exact ⟨0, Nat.zero_le _, rfl, hm0, hflt, hrow0, hB4'⟩
  case round =>
    obtain ⟨k, hk, rfl, hmq, hfq, hrq, hBq⟩ := hrel
    by_cases hkf : k < fn
    · obtain ⟨g, zs, rfl, hg1, hg2, hown⟩ := hmq.resolve_left (by omega)
      have hkc : ∃ u, wr.cell? ⟨g, k, none⟩ = some u := by
        rw [hown.cellAt k (by omega)]
        have : k < zs.length := by have := hown.1; omega
        exact ⟨_, List.getElem?_eq_getElem this⟩
      obtain ⟨u, hku⟩ := hkc
      have hfz := hown.frozenAt k
      go_wp2
      go_roundw
      case rel =>
        refine ⟨k + 1, by omega, by simp, .inr ⟨g, _, rfl, hg1, hg2, (hown.stored k (.int .u8 0)).1⟩, hfq.far (p := ⟨g, k, none⟩) (by simp; omega) _, ?_, hBq.setCell (p := ⟨g, k, none⟩) (by simpa using hg1) _⟩
        rcases hrq with h0 | ⟨g', e, h1, h2, h3⟩
        · exact .inl h0
        · exact .inr ⟨g', e, h1, h2, h3.set (p := ⟨g, k, none⟩) (by simp; omega) _⟩
      case measure => simp [intOf]; omega
    · obtain rfl : k = fn := by omega
      clear hmq hm0 hrow0 hflt
      have hbf : Bs wr F A4 k c4 fs := bs_of_row (g := 0) hfl.out (by omega) hc4 (hrq.imp id fun ⟨g, e, h1, h2, h3⟩ => ⟨g, e, h2, h3⟩)
      have hFlt := hfq.lt
      have hwF : w.heap.size ≤ F := by have := hB3'.size; omega
      generalize wr = wx at *
      go_wp2
      go_loopw [8, 46] (fun r i wq => ∃ (j r' : Nat), j ≤ n ∧ r' ≤ j ∧ i = .int .i64 (j : Int) ∧ r = .int .i64 (r' : Int) ∧ Flt wq F A4 k c4 (j : Int) (r' : Int) ∧ Below F wx wq ∧ Below w.heap.size w wq) (fun _ i _ => n - (intOf i).toNat)
      case atStart => exact ⟨0, 0, Nat.zero_le _, Nat.le_refl _, rfl, rfl, hfq, Below.refl _ _, hBq⟩
      case round =>
        obtain ⟨j, r', hj, hr', rfl, rfl, hfz, hBz, hBw⟩ := hrel
        by_cases hjn : j < n
        · obtain ⟨b, off, rfl, hbb, hc⟩ := h.at_ (by omega)
          obtain ⟨Ai, ni, ci, hci, hki⟩ := hc j (by rw [hlen.out]; exact hjn)
          have hci' : wr.cell? ⟨b, off + j, none⟩ = some (.slice Ai ni ci) := (hBw.cell (p := ⟨b, off + j, none⟩) hbb).trans hci
          have cm := flt_may fs (kss[j]'(by rw [hlen.out]; exact hjn)) F A4 Ai k c4 ni ci (j : Int) (r' : Int) wr hfz (hbf.below hBz) ((hki.below hBw).more hwF) (by omega) (by omega) (by omega) (by omega) (by omega)
          have cr := fun w4 (hB : Below w.heap.size w w4) => refmay_any fs (kss[j]'(by rw [hlen.out]; exact hjn)) FA Ai k fc ni ci w.heap.size w.heap.size w4 (hf.below hB) hB.size (hki.below hB) hB.size (by omega)
          generalize mayOf fs (kss[j]'(by rw [hlen.out]; exact hjn)) = mm at cm cr
          have Cm := hide cm
          have Cr := hide cr
          have hFr := hfz.lt
          clear cm cr hc hci
          cases mm
          · go_wp2_with fail
            refine Calls.mono Cm.out ?_
            rintro e w5 ⟨rfl, hf5, hB5⟩
            have hFr5 := hf5.lt
            have hB5' := hBw.trans (hB5.mono hwF)
            go_wp2_with fail
            refine (Cr.out w5 hB5').mono ?_
            rintro e w6 ⟨rfl, hB6⟩
            go_wp2
            go_roundw
            case rel => exact ⟨j + 1, r' + 1, by omega, by omega, by simp, by simp, hf5.below hB6 hFr5, hBz.trans (hB5.trans (hB6.mono (by omega))), hB5'.trans (hB6.mono (by omega))⟩
            case measure => simp [intOf]; omega
          · go_wp2_with fail
            refine Calls.mono Cm.out ?_
            rintro e w5 ⟨rfl, hf5, hB5⟩
            have hFr5 := hf5.lt
            have hB5' := hBw.trans (hB5.mono hwF)
            go_wp2_with fail
            refine (Cr.out w5 hB5').mono ?_
            rintro e w6 ⟨rfl, hB6⟩
            go_wp2
            go_roundw
            case rel => exact ⟨j + 1, r', by omega, by omega, by simp, by simp, hf5.below hB6 hFr5, hBz.trans (hB5.trans (hB6.mono (by omega))), hB5'.trans (hB6.mono (by omega))⟩
            case measure => simp [intOf]; omega
        · obtain rfl : j = n := by omega
          go_wp2_with fail
          refine (flt_asked F A4 k c4 _ _ wr hfz).mono ?_
          rintro e w5 ⟨rfl, m5, rfl⟩
          have hbe : Below w.heap.size w (wr.drewN m5) := hBw.trans ⟨rfl, rfl, rfl, Nat.le_refl _, fun _ _ => rfl⟩
          have hbe2 := (hbe.alloc hbe.size (.cells #[.int .i64 0, .slice none 0 0, .int .i64 0, .int .i64 0] 47)).alloc (by have := hbe.size; simp at this ⊢; omega) (.cells #[.pointer none, .pointer (some ⟨wr.heap.size, 0, none⟩)] 36)
          have hz : Zro (((wr.drewN m5).alloc (.cells #[.int .i64 0, .slice none 0 0, .int .i64 0, .int .i64 0] 47)).alloc (.cells #[.pointer none, .pointer (some ⟨wr.heap.size, 0, none⟩)] 36)) wr.heap.size := (Blk.new (wr.drewN m5) 47 #[.int .i64 0, .slice none 0 0, .int .i64 0, .int .i64 0]).alloc (.cells #[.pointer none, .pointer (some ⟨wr.heap.size, 0, none⟩)] 36)
          have hp : Blk (((wr.drewN m5).alloc (.cells #[.int .i64 0, .slice none 0 0, .int .i64 0, .int .i64 0] 47)).alloc (.cells #[.pointer none, .pointer (some ⟨wr.heap.size, 0, none⟩)] 36)) (wr.heap.size + 1) 36 #[.pointer none, .pointer (some ⟨wr.heap.size, 0, none⟩)] := by
            have := Blk.new ((wr.drewN m5).alloc (.cells #[.int .i64 0, .slice none 0 0, .int .i64 0, .int .i64 0] 47)) 36 #[.pointer none, .pointer (some ⟨wr.heap.size, 0, none⟩)]
            rw [World.size_alloc] at this
            exact this
          clear hfz hBz hBw hbe hbf hfq
          go_wp2
          generalize (((wr.drewN m5).alloc (.cells #[.int .i64 0, .slice none 0 0, .int .i64 0, .int .i64 0] 47)).alloc (.cells #[.pointer none, .pointer (some ⟨wr.heap.size, 0, none⟩)] 36)) = we at *
          have p0 : we.cell? ⟨wr.heap.size + 1, 0, none⟩ = some (.pointer none) := hp.cell 0
          have p1 : we.cell? ⟨wr.heap.size + 1, 1, none⟩ = some (.pointer (some ⟨wr.heap.size, 0, none⟩)) := hp.cell 1
          refine wp_loop_rounds 3 ?_
          rw [rounds_succ]
          go_wp2_with fail
          refine (nil_asked we).mono ?_
          rintro e w6 ⟨rfl, rfl⟩
          go_wp2_with fail
          refine (nil_may FA k fc we).mono ?_
          rintro e w6 ⟨rfl, rfl⟩
          go_wp2_with fail
          rw [rounds_succ]
          go_wp2_with fail
          refine (zero_asked wr.heap.size we hz).mono ?_
          rintro e w6 ⟨rfl, rfl⟩
          go_wp2_with fail
          refine (zero_may wr.heap.size FA k fc we hz).mono ?_
          rintro e w6 ⟨rfl, rfl⟩
          go_wp2_with fail
          rw [rounds_succ]
          go_wp2_with fail
          go_ret
          exact ⟨rfl, hbe2⟩

end Go.Proofs.Ytkkjfehnkhhafaa
