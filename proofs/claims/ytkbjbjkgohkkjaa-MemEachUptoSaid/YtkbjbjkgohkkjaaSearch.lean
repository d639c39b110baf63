/-
  The walk of search: what it counts, and the places ahead of the key. Condition: the table lies in memory as a skip list does; the key reads as bytes.
-/
import Derived.Test.YtkbjbjkgohkkjaaSmall
import Derived.Deep.OwnRows
namespace Go.Proofs.Ytkbjbjkgohkkjaa
open Go.RowKit Go.Shelf

/-- a pointer to place q: the head, or a node -/
def pP (hd : Nw) (ms : List Nw) (q : Nat) : Value := .pointer (((hd :: ms)[q]?).map fun n => ⟨n.b, 0, none⟩)
theorem pP_some {hd : Nw} {ms : List Nw} {q : Nat} {n : Nw} (h : (hd :: ms)[q]? = some n) : pP hd ms q = .pointer (some ⟨n.b, 0, none⟩) := by simp [pP, h]
theorem pP_zero (hd : Nw) (ms : List Nw) : pP hd ms 0 = .pointer (some ⟨hd.b, 0, none⟩) := rfl

/-- the table's steps, read off a world -/
def stepsOf (T : Nat) (w : World) : Nat := match w.cell? ⟨T, 6, none⟩ with | some (.int _ z) => z.toNat | _ => 0

/-- what search gives -/
def Searched (w : World) (T : Nat) (ns : List Nd) (hd : Nw) (ms : List Nw) (k : Key) (cells : Int → Array Value) (steps : Int) (e : Ending) (w' : World) : Prop :=
  ∃ (g : Nat) (qs : Nat → Nat), e = .returned (.slice (some ⟨g, 0, none⟩) 12 12) ∧ w.heap.size ≤ g ∧ (∀ l, l < 12 → Lst ns k l (qs l)) ∧ (∀ l, l < 12 → w'.cell? ⟨g, l, none⟩ = some (pP hd ms (qs l))) ∧
    w.grownBy w' (some T) ∧ Blk w' T 47 (cells (steps + ((srch ns k (hi ns) 0).2 : Nat)))

theorem grown_trans {a b c : World} {g : Nat} (h : a.grownBy b (some g)) (k : b.grownBy c (some g)) : a.grownBy c (some g) :=
  ⟨k.os.trans h.os, k.tape.trans h.tape, k.output.trans h.output, Nat.le_trans h.size k.size, fun i hi hn => (k.block i (Nat.lt_of_lt_of_le hi h.size) hn).trans (h.block i hi hn)⟩
theorem grown_of_below {w w' : World} (h : Below w.heap.size w w') (r : Option Nat) : w.grownBy w' r := ⟨h.os, h.tape, h.output, h.size, fun k hk _ => h.block k hk⟩
theorem grown_at {w w' : World} {T : Nat} (h : w.grownBy w' (some T)) {b : Nat} (hb : w.heap.size ≤ b ∨ b = T) (i : Nat) (v : Value) : w.grownBy (w'.setCell ⟨b, i, none⟩ v) (some T) :=
  ⟨h.os, h.tape, h.output, by simpa using h.size, fun k hk hn => (Below.heap_setCell w' _ v k (fun e => by
    have e' : k = b := e
    rcases hb with h' | h'
    · omega
    · exact hn (by rw [e', h']))).trans (h.block k hk hn)⟩

theorem info28 : (Try.prog.info? 28).map (fun i => (i.zero, i.size, i.bytes)) = some (some (.pointer none), 1, 8) := by kernel_rfl
/-- so many nil pointers -/
def nilsA (n : Nat) : Array Value := (List.replicate n (.pointer none : Value)).toArray
theorem made_nil (n : Nat) : madeCells #[.pointer none] n = nilsA n := by
  unfold nilsA
  apply Array.ext'
  simp only [madeCells, Array.toList_map, Array.toList_range]
  apply List.ext_getElem
  · simp
  · intro i h1 h2
    simp [Nat.mod_one]
theorem run_make_ptrs (n : Nat) (hn : n ≤ 1000) (w : World) :
    (Instr.makeSlice 81 (.int .i64 (n : Int)) (.int .i64 (n : Int))).run Try.prog w = .ok (.slice (some ⟨w.heap.size, 0, none⟩) n n) (w.alloc (.cells (nilsA n) 28)) := by
  rw [run_make_row' (P := Try.prog) 81 28 (.pointer none) 8 Try.underlying81 info28 rfl .i64 .i64 n (by omega) (by omega) w, made_nil]

/-- a step more -/
theorem tc_step {w : World} {T H : Nat} {tv : Value} {high many size z dn st sd : Int} (h : Blk w T 47 (tc tv H high many size z dn st sd)) (z' : Int) : Blk (w.setCell ⟨T, 6, none⟩ (.int .i64 z')) T 47 (tc tv H high many size z' dn st sd) := by
  have := h.put 6 (.int .i64 z')
  exact this

theorem bs_grown {w w' : World} {g B : Nat} {A : Option Addr} {n c : Nat} {ks : List UInt8} (h : Bs w B A n c ks) (hB : B ≤ w.heap.size) (hA : 0 < n → ∀ a, A = some a → a.block ≠ g) (hg : w.grownBy w' (some g)) : Bs w' B A n c ks :=
  ⟨Sl.len h, Sl.cap h, Sl.reach h, fun hn => by
    obtain ⟨b, off, e, hb, hc⟩ := Sl.row h hn
    exact ⟨b, off, e, hb, fun j u hu => (World.cell?_of_block (w := w) (hg.block b (by omega) (fun e' => hA (by rw [← Sl.len h]; exact List.length_pos_iff.2 hn) _ e (by injection e')))).trans (hc j u hu)⟩⟩

set_option maxRecDepth 100000 in
set_option maxHeartbeats 4000000 in
theorem search_any (T base : Nat) (tv : Value) (ns : List Nd) (hd : Nw) (ms : List Nw) (k : Key) (A : Option Addr) (n c : Nat) (many size steps dn st sd : Int) (w : World)
    (ht : Blk w T 47 (tc tv hd.b (hi ns : Int) many size steps dn st sd)) (hs : SL w base ns hd ms) (hk : Bs w w.heap.size A n c k) (hA : 0 < n → ∀ a, A = some a → a.block ≠ T)
    (h0 : 0 ≤ steps) (h1 : steps + ((srch ns k (hi ns) 0).2 : Nat) ≤ 4611686018427387904) :
    Calls Try.prog 30 #[.pointer (some ⟨T, 0, none⟩), .slice A n c] w (Searched w T ns hd ms k (fun z => tc tv hd.b (hi ns : Int) many size z dn st sd) steps) := by
  have c2 : w.cell? ⟨T, 2, none⟩ = some (.pointer (some ⟨hd.b, 0, none⟩)) := ht.cell 2
  have hTl := ht.lt
  have hhi : hi ns ≤ 12 := tmax_bound _ _ (fun t h => by obtain ⟨d, hd, rfl⟩ := List.mem_map.1 h; exact (hs.tall d hd).2)
  have hmk : ∀ w : World, (Instr.makeSlice 81 (.int .i64 12) (.int .i64 12)).run Try.prog w = .ok (.slice (some ⟨w.heap.size, 0, none⟩) 12 12) (w.alloc (.cells (nilsA 12) 28)) := fun w => run_make_ptrs 12 (by omega) w
  have Ht := hide ht
  have Hs := hide hs
  have Hk := hide hk
  have HA := hide hA
  clear ht hs hk hA
  go_enter Try.func30, Try.ntmps30
  go_wp2
  clear hmk
  go_loopw [13] (fun t13 wq => ∃ (i : Nat) (cs : Array Value), i ≤ 12 ∧ t13 = .int .i64 (i : Int) ∧ Below w.heap.size w wq ∧ Blk wq w.heap.size 28 cs ∧ cs.size = 12 ∧ ∀ j, j < i → cs[j]? = some (pP hd ms 0)) (fun t13 _ => 12 - (intOf t13).toNat)
  case atStart => exact ⟨0, nilsA 12, by omega, rfl, (Below.refl _ w).alloc (Nat.le_refl _) _, Blk.new w 28 _, by simp [nilsA], fun j h => by omega⟩
  case round =>
    obtain ⟨i, cs, hi12, rfl, hB, hb, hcs, hall⟩ := hrel
    have d2 : wr.cell? ⟨T, 2, none⟩ = some (.pointer (some ⟨hd.b, 0, none⟩)) := (hB.cell (p := ⟨T, 2, none⟩) hTl).trans c2
    by_cases hlt : i < 12
    · have gi : wr.cell? ⟨w.heap.size, i, none⟩ = some (cs[i]'(by omega)) := by rw [hb.cell, Array.getElem?_eq_getElem (by omega)]
      have gf := hb.frozen i
      go_wp2
      go_roundw
      case rel =>
        refine ⟨i + 1, cs.setIfInBounds i (pP hd ms 0), by omega, by simp, hB.setCell (p := ⟨w.heap.size, i, none⟩) (Nat.le_refl _) _, hb.put i _, by simpa using hcs, fun j hj => ?_⟩
        by_cases e : j = i
        · subst e; simp [hcs, hlt]
        · rw [Array.getElem?_setIfInBounds_ne (by omega)]; exact hall j (by omega)
      case measure => simp [intOf]; omega
    · have e12 : i = 12 := by omega
      rw [show (i : Int) = 12 by omega]
      subst e12
      have ht1 := Blk.below Ht.out hB hTl
      have d3 : wr.cell? ⟨T, 3, none⟩ = some (.int .i64 (hi ns : Int)) := ht1.cell 3
      have hgw : w.grownBy wr (some T) := grown_of_below hB _
      have hszw := hB.size
      have hblt := hb.lt
      have hst0 := hide (Lst.high (ns := ns) k (l := hi ns) le_hi)
      obtain ⟨tot, htot⟩ : ∃ tot, (srch ns k (hi ns) 0).2 = tot := ⟨_, rfl⟩
      rw [htot] at h1
      have Htot := hide htot
      clear htot c2
      go_wp2
      go_loopw [7, 8] (fun t7 t8 wq => ∃ (L p c : Nat) (cs : Array Value), L ≤ hi ns ∧ t8 = .int .i64 ((L : Int) - 1) ∧ t7 = pP hd ms p ∧ Lst ns k L p ∧ c + (srch ns k L p).2 = tot ∧ w.grownBy wq (some T) ∧
        Blk wq T 47 (tc tv hd.b (hi ns : Int) many size (steps + (c : Int)) dn st sd) ∧ Blk wq w.heap.size 28 cs ∧ cs.size = 12 ∧ ∀ l, L ≤ l → l < 12 → ∃ q, Lst ns k l q ∧ cs[l]? = some (pP hd ms q)) (fun _ t8 _ => (intOf t8 + 1).toNat)
      case atStart =>
        refine ⟨hi ns, 0, 0, cs, Nat.le_refl _, rfl, rfl, hst0.out, by rw [Nat.zero_add]; exact Htot.out, hgw, by simpa using ht1, hb, hcs, fun l h1 h2 => ⟨0, Lst.high k (fun d hd => Nat.le_trans (le_hi d hd) h1), hall l h2⟩⟩
      case round =>
        clear hB hb hcs hall ht1 d3 hgw hblt hszw hst0 hlt hi12
        obtain ⟨L, p, c0, cs, hL, rfl, rfl, hlst, hcnt, hgw, ht1, hb, hcs, hall⟩ := hrel
        rcases L with _ | l
        · have hq := fun l => hall l (Nat.zero_le _)
          go_wp2
          go_ret
          have hq' : ∀ l, ∃ q, l < 12 → (Lst ns k l q ∧ cs[l]? = some (pP hd ms q)) := fun l => by
            by_cases h : l < 12
            · obtain ⟨q, hq⟩ := hq l h
              exact ⟨q, fun _ => hq⟩
            · exact ⟨0, fun h' => absurd h' h⟩
          obtain ⟨qs, hqs⟩ := Classical.skolem.1 hq'
          have hc0 : c0 = tot := by simpa [srch] using hcnt
          subst hc0
          exact ⟨w.heap.size, qs, rfl, Nat.le_refl _, fun l h => (hqs l h).1, fun l h => by rw [hb.cell]; exact (hqs l h).2, hgw, by rw [Htot.out]; exact ht1⟩
        · have el : ((l + 1 : Nat) : Int) - 1 = (l : Int) := by omega
          rw [el]
          have hl12 : l < 12 := by omega
          have hle := fnd_le ns k
          have hsr := Hs.out.grown hgw (Hs.out.not_foot Ht.out (by decide) (by decide) (by decide))
          obtain ⟨x0, hx0⟩ := hsr.at_ (q := p) (by have := hlst.le; omega)
          have hltl : l < tl ns p := by
            rcases p with _ | p1
            · exact hl12
            · obtain ⟨h1, h2⟩ := hlst.ok.resolve_left (by omega)
              rw [tl_succ (by simpa using h1)]
              simp only [Nat.add_sub_cancel] at h2
              omega
          have k2 : wr.cell? ⟨x0.b, 2, none⟩ = some (.slice (some ⟨x0.x, 0, none⟩) (tl ns p) (tl ns p)) := (hsr.node p x0 hx0).cell 2
          have k3 := hsr.tower hx0 hltl
          have e7 := pP_some hx0
          have i0 : (0 : Int) ≤ (l : Int) := by omega
          have i1 : (l : Int) < (tl ns p : Int) := by omega
          have hrow := rowp_lst Hs.out.ord k l (ns.length + 1) p (by omega) hlst.le (hlst.down (by omega))
          have hstep : c0 + ((rowp ns k l p).2 + (srch ns k l (rowp ns k l p).1).2) = tot := hcnt
          rw [e7]
          go_wp2
          clear k2 k3 e7 i1 hltl
          go_loopw [7, 9] (fun t7 t9 wq => ∃ p' c' : Nat, p' ≤ fnd ns k ∧ (p' = 0 ∨ ∃ h : p' - 1 < ns.length, l < ns[p' - 1].t) ∧ t7 = pP hd ms p' ∧ t9 = pN ms (nxt ns l p') ∧ c' + (rowp ns k l p').2 = c0 + (rowp ns k l p).2 ∧ (rowp ns k l p').1 = (rowp ns k l p).1 ∧
            w.grownBy wq (some T) ∧ Blk wq T 47 (tc tv hd.b (hi ns : Int) many size (steps + (c' : Int)) dn st sd) ∧ Blk wq w.heap.size 28 cs) (fun _ _ wq => (steps + (tot : Int)).toNat + 1 - stepsOf T wq)
          case atStart => exact ⟨p, c0, hlst.le, hlst.down (by omega), (pP_some hx0).symm, rfl, rfl, rfl, hgw, ht1, hb⟩
          case round =>
            clear hgw ht1 hb hsr hx0 hlst
            obtain ⟨p', c', hp', hok', rfl, rfl, hc', hr', hgw, ht1, hb⟩ := hrel
            have hsr := Hs.out.grown hgw (Hs.out.not_foot Ht.out (by decide) (by decide) (by decide))
            have hrw := rowp_eq ns k l p' (by omega)
            have hcells : wr.cell? ⟨w.heap.size, l, none⟩ = some (cs[l]'(by omega)) := by rw [hb.cell, Array.getElem?_eq_getElem (by omega)]
            have hfr := hb.frozen l
            obtain ⟨x1, hx1⟩ := hsr.at_ (q := p') (by omega)
            have ep := pP_some hx1
            -- the tail: both ways out of the level
            have htail : ∀ (W : World) (p1 c1 : Nat), (rowp ns k l p).1 = p1 → c1 = c0 + (rowp ns k l p).2 → w.grownBy W (some T) → Blk W T 47 (tc tv hd.b (hi ns : Int) many size (steps + (c1 : Int)) dn st sd) → Blk W w.heap.size 28 cs →
                ∃ (L p c : Nat) (cs' : Array Value), L ≤ hi ns ∧ Value.int IntKind.i64 ((l : Int) - 1) = .int .i64 ((L : Int) - 1) ∧ pP hd ms p1 = pP hd ms p ∧ Lst ns k L p ∧ c + (srch ns k L p).2 = tot ∧ w.grownBy (W.setCell ⟨w.heap.size, l, none⟩ (pP hd ms p1)) (some T) ∧
                  Blk (W.setCell ⟨w.heap.size, l, none⟩ (pP hd ms p1)) T 47 (tc tv hd.b (hi ns : Int) many size (steps + (c : Int)) dn st sd) ∧ Blk (W.setCell ⟨w.heap.size, l, none⟩ (pP hd ms p1)) w.heap.size 28 cs' ∧ cs'.size = 12 ∧ ∀ l', L ≤ l' → l' < 12 → ∃ q, Lst ns k l' q ∧ cs'[l']? = some (pP hd ms q) := by
              rintro W p1 c1 rfl rfl hg hT hb
              refine ⟨l, _, _, cs.setIfInBounds l (pP hd ms (rowp ns k l p).1), by omega, rfl, rfl, hrow, by omega, grown_at hg (.inl (Nat.le_refl _)) _ _, hT.far (by simp; omega) _, hb.put l _, by simpa using hcs, fun l' h1 h2 => ?_⟩
              by_cases e : l' = l
              · subst e
                exact ⟨_, hrow, by simp [hcs, hl12]⟩
              · obtain ⟨q, hq1, hq2⟩ := hall l' (by omega) h2
                exact ⟨q, hq1, by rw [Array.getElem?_setIfInBounds_ne (by omega)]; exact hq2⟩
            have Htail := hide htail
            clear htail
            by_cases hm : nxt ns l p' < ns.length
            · rw [dif_pos hm] at hrw
              obtain ⟨x2, hx2⟩ := hsr.at_ (q := nxt ns l p' + 1) (by omega)
              have hx2' : ms[nxt ns l p']? = some x2 := by simpa using hx2
              rw [pN_some hx2']
              have hat := nxt_at hm
              have htl2 := tl_succ hm
              have hmk := hsr.kv _ _ _ hx2' (List.getElem?_eq_getElem hm)
              have hsh := (hsr.short _ (List.getElem_mem hm)).1
              obtain ⟨KA, KL, kc, ekv, hKL, hkb⟩ := Mine.bsL hmk (by omega)
              clear hKL
              have hc1 : c' + 1 ≤ tot := by
                have : 1 ≤ (rowp ns k l p').2 := by rw [hrw]; split <;> simp
                omega
              have a6 : wr.cell? ⟨T, 6, none⟩ = some (.int .i64 (steps + (c' : Int))) := ht1.cell 6
              have f6 := ht1.frozen 6
              have hg2 := grown_at hgw (.inr rfl : w.heap.size ≤ T ∨ T = T) 6 (.int .i64 (steps + (c' : Int) + 1))
              have ht2 := tc_step ht1 (steps + (c' : Int) + 1)
              have hb2 := hb.far (p := ⟨T, 6, none⟩) (by simp; omega) (.int .i64 (steps + (c' : Int) + 1))
              have hso : stepsOf T wr = (steps + (c' : Int)).toNat := by simp [stepsOf, a6]
              rw [ep]
              go_wp2_with fail
              refine (add64_any T 6 (steps + (c' : Int)) 1 wr a6 f6 (by omega) (by omega)).mono ?_
              rintro e w2 ⟨rfl, rfl⟩
              obtain ⟨W2, hW2⟩ : ∃ W2, wr.setCell ⟨T, 6, none⟩ (.int .i64 (steps + (c' : Int) + 1)) = W2 := ⟨_, rfl⟩
              rw [hW2] at hg2 ht2 hb2 ⊢
              have hs2 := Hs.out.grown hg2 (Hs.out.not_foot Ht.out (by decide) (by decide) (by decide))
              have n0 : W2.cell? ⟨x2.b, 0, none⟩ = some (.slice KA KL kc) := by rw [← ekv]; exact (hs2.node _ x2 hx2).cell 0
              have n2 : W2.cell? ⟨x2.b, 2, none⟩ = some (.slice (some ⟨x2.x, 0, none⟩) ns[nxt ns l p'].t ns[nxt ns l p'].t) := by
                have := (hs2.node _ x2 hx2).cell 2
                rw [htl2] at this
                exact this
              have n3 := hs2.tower hx2 (by rw [htl2]; exact hat)
              have hk2 := bs_grown Hk.out (Nat.le_refl _) HA.out hg2
              have hkv2 : Bs W2 W2.heap.size KA KL kc ns[nxt ns l p'].k := by
                obtain ⟨A', L', c'', e1, _, e2⟩ := Mine.bsL (hs2.kv _ _ _ hx2' (List.getElem?_eq_getElem hm)) (by omega)
                rw [ekv] at e1
                injection e1 with e3 e4 e5
                subst e3 e4 e5
                exact e2
              have hcmp := cmp_ge ns[nxt ns l p'].k k
              have hc1' : steps + (c' : Int) + 1 = steps + ((c' + 1 : Nat) : Int) := by omega
              rw [hc1'] at ht2
              have hcell2 : W2.cell? ⟨w.heap.size, l, none⟩ = some (cs[l]'(by omega)) := by rw [hb2.cell, Array.getElem?_eq_getElem (by omega)]
              have hfr2 := hb2.frozen l
              have hso2 : stepsOf T W2 = (steps + ((c' + 1 : Nat) : Int)).toNat := by
                have a6' : W2.cell? ⟨T, 6, none⟩ = some (.int .i64 (steps + ((c' + 1 : Nat) : Int))) := ht2.cell 6
                simp only [stepsOf, a6']
              clear hb a6 f6 hW2 hmk hkb hsr hcells hfr
              have i2 : (l : Int) < (ns[nxt ns l p'].t : Int) := by omega
              go_wp2_with fail
              refine (compare_any ns[nxt ns l p'].k k KA A KL kc n c _ _ W2 hkv2 hk2).mono ?_
              rintro e w3 ⟨rfl, rfl⟩
              by_cases hkl : klt ns[nxt ns l p'].k k = true
              · rw [if_pos hkl] at hrw
                rw [hkl] at hcmp
                have hneg : ¬ 0 ≤ Lib.compareBytes ns[nxt ns l p'].k k := of_decide_eq_false hcmp
                have hp1 : nxt ns l p' + 1 ≤ fnd ns k := by
                  rcases Nat.lt_or_ge (nxt ns l p') (fnd ns k) with h' | h'
                  · omega
                  · rw [fnd_from Hs.out.ord h' hm] at hkl
                    cases hkl
                go_wp2
                go_roundw
                case rel => exact ⟨nxt ns l p' + 1, c' + 1, hp1, .inr ⟨by simpa using hm, by simpa using hat⟩, (pP_some hx2).symm, rfl, by rw [hrw] at hc'; simp only at hc'; omega, by rw [← hr', hrw], hg2, ht2, hb2⟩
                case measure => rw [hso, hso2]; omega
              · rw [if_neg hkl] at hrw
                rw [Bool.eq_false_iff.2 hkl] at hcmp
                have hpos : 0 ≤ Lib.compareBytes ns[nxt ns l p'].k k := of_decide_eq_true hcmp
                have e1 : (rowp ns k l p).1 = p' := by rw [← hr', hrw]
                have e2 : c' + 1 = c0 + (rowp ns k l p).2 := by rw [hrw] at hc'; simpa using hc'
                have Ht' := hide (Htail.out W2 p' (c' + 1) e1 e2 hg2 ht2 hb2)
                rw [ep] at Ht'
                clear ht2 hb2 Htail
                go_wp2
                go_roundw
                case rel => exact Ht'.out
                case measure => simp [intOf]
            · rw [dif_neg hm] at hrw
              rw [pN_none (i := nxt ns l p') (by rw [hsr.len]; omega)]
              have e1 : (rowp ns k l p).1 = p' := by rw [← hr', hrw]
              have e2 : c' = c0 + (rowp ns k l p).2 := by rw [hrw] at hc'; simpa using hc'
              have Ht' := hide (Htail.out wr p' c' e1 e2 hgw ht1 hb)
              rw [ep] at Ht' ⊢
              clear ht1 hb Htail
              go_wp2
              go_roundw
              case rel => exact Ht'.out
              case measure => simp [intOf]

end Go.Proofs.Ytkbjbjkgohkkjaa
