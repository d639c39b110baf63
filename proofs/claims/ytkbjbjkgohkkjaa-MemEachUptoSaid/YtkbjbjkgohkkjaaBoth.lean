/-
  The walk of both: a memtable and the document's table with the same pairs. Condition: the towers read as numbers, the list as few pairs. (The drawn regions printed by gen_both.py.)
-/
import Derived.Test.YtkbjbjkgohkkjaaPuts
namespace Go.Proofs.Ytkbjbjkgohkkjaa
open Go.RowKit Go.Shelf

section
variable {w w' : World} {T R base base' : Nat} {tws : List Int} {tw kv vv tv : Value} {ns ns' : List Nd} {cnt cnt' : Nat} {sl : Bool} {hd : Nw} {ms : List Nw}
theorem Tm.kind (h : Tm w T base tws ns cnt sl hd ms) {g : Nat} (hg : g = T ∨ Foot hd ms g ∨ ∃ cs r, w.heap[g]? = some (.cells cs 3 r)) : ∃ cs t r, w.heap[g]? = some (.cells cs t r) ∧ (t = 47 ∨ t = 83 ∨ t = 28 ∨ t = 5 ∨ t = 3) := by
  rcases hg with rfl | hg | ⟨cs, r, hg⟩
  · obtain ⟨v, hb, _⟩ := h.tab
    exact ⟨_, _, _, hb, .inl rfl⟩
  · obtain ⟨_, cs, t, r, hh, ht⟩ := h.sl.foot_kind hg
    exact ⟨cs, t, r, hh, .inr (by rcases ht with h | h | h <;> simp [h])⟩
  · exact ⟨cs, 3, r, hg, by simp⟩
theorem kind_ne {cs cs' : Array Value} {t t' : TypeId} {r r' : Nat × Nat} {g : Nat} (h : w.heap[g]? = some (.cells cs t r)) (h' : w.heap[g]? = some (.cells cs' t' r')) : t = t' := by
  rw [h] at h'
  injection h' with h'
  injection h' with _ e _
/-- the document's Put leaves the memtable alone -/
theorem Tm.moved_r (h : Tm w T base tws ns cnt sl hd ms) (hr : Rt w R base' tw kv vv tv ns' cnt') (hm : Moved (fun g => g = R ∨ vv.ownBlock = some g) w w') : Tm w' T base tws ns cnt sl hd ms :=
  h.keep fun g _ hl hc => hm.block g hl (fun hp => by
    obtain ⟨cs, t, r, hh, ht⟩ := h.kind hc
    rcases hp with rfl | hp
    · have := kind_ne hh hr.tab
      subst this
      rcases ht with h | h | h | h | h <;> cases h
    · obtain ⟨cs', r', h2⟩ := ownG hr.vals hp
      have := kind_ne hh h2
      subst this
      rcases ht with h | h | h | h | h <;> cases h)
/-- .. what keeps the document's table: by the types of its blocks -/
theorem Rt.keep (h : Rt w R base tw kv vv tv ns cnt) (hh : ∀ (g : Nat) (cs : Array Value) (t : TypeId) (r : Nat × Nat), w.heap[g]? = some (.cells cs t r) → (t = 72 ∨ t = 9 ∨ t = 3) → w'.heap[g]? = w.heap[g]?) : Rt w' R base tw kv vv tv ns cnt :=
  ⟨(hh R _ _ _ h.tab (.inl rfl)).trans h.tab, of_heapG h.keys (fun g hg => by obtain ⟨cs, r, e⟩ := ownG h.keys hg; exact hh g _ _ _ e (.inr (.inl rfl))),
    of_heapG h.vals (fun g hg => by obtain ⟨cs, r, e⟩ := ownG h.vals hg; exact hh g _ _ _ e (.inr (.inl rfl))), of_heapG h.tall (fun g hg => by obtain ⟨cs, r, e⟩ := ownG h.tall hg; exact hh g _ _ _ e (.inr (.inr rfl)))⟩
/-- the program's calls leave the document's table alone -/
theorem Rt.moved_t (hr : Rt w R base' tw kv vv tv ns' cnt') (h : Tm w T base tws ns cnt sl hd ms) (hm : Moved (fun g => g = T ∨ Foot hd ms g) w w') : Rt w' R base' tw kv vv tv ns' cnt' :=
  hr.keep fun g cs t r e ht => hm.block g (Array.getElem?_eq_some_iff.1 e).1 (fun hp => by
    rcases hp with rfl | hp
    · obtain ⟨v, hb, _⟩ := h.tab
      have := kind_ne e hb
      subst this
      rcases ht with h | h | h <;> cases h
    · obtain ⟨_, cs', t', r', hh, ht'⟩ := h.sl.foot_kind hp
      have := kind_ne e hh
      subst this
      rcases ht with h | h | h <;> subst h <;> simp at ht')
theorem Rt.grown_t (hr : Rt w R base' tw kv vv tv ns' cnt') (h : Tm w T base tws ns cnt sl hd ms) (hg : w.grownBy w' (some T)) : Rt w' R base' tw kv vv tv ns' cnt' := hr.moved_t h (Moved.of_grown hg (.inl rfl))
theorem Tm.grown_r (h : Tm w T base tws ns cnt sl hd ms) (hr : Rt w R base' tw kv vv tv ns' cnt') (hg : w.grownBy w' (some R)) : Tm w' T base tws ns cnt sl hd ms := h.moved_r hr (Moved.of_grown hg (.inl rfl))
/-- bytes written into a block that is none of the table's -/
theorem Tm.zed (h : Tm w T base tws ns cnt sl hd ms) {g : Nat} {cs : Array Value} (hb : Blk w g 5 cs) (hf : ¬ Foot hd ms g) (i : Nat) (u : Value) : Tm (w.setCell ⟨g, i, none⟩ u) T base tws ns cnt sl hd ms :=
  h.keep fun k _ _ hc => Below.heap_setCell w _ u k (fun e => by
    have e : k = g := e
    subst e
    rcases hc with rfl | hc | ⟨cs', r, hc⟩
    · obtain ⟨v, hb', _⟩ := h.tab
      have := kind_ne hb hb'
      cases this
    · exact hf hc
    · have := kind_ne hb hc
      cases this)
theorem Rt.zed (h : Rt w R base tw kv vv tv ns cnt) {g : Nat} {cs : Array Value} (hb : Blk w g 5 cs) (i : Nat) (u : Value) : Rt (w.setCell ⟨g, i, none⟩ u) R base tw kv vv tv ns cnt :=
  h.keep fun k cs' t r e ht => Below.heap_setCell w _ u k (fun e' => by
    have e' : k = g := e'
    subst e'
    have := kind_ne e hb
    subst this
    rcases ht with h | h | h <;> cases h)
end

/-- both tables with the same pairs -/
structure Both (w : World) (tw : Value) (tws : List Int) (s : List Nd × Nat) (T R base : Nat) (hd : Nw) (ms : List Nw) (kv vv tv : Value) (W : World) : Prop where
  tm : Tm W T base tws s.1 s.2 false hd ms
  rt : Rt W R base tw kv vv tv s.1 s.2
  sep : Sep kv vv
  bel : Below w.heap.size w W
  low : w.heap.size ≤ base ∧ base ≤ R
def BothE (w : World) (tw : Value) (tws : List Int) (s : List Nd × Nat) (T R base : Nat) (W : World) : Prop := ∃ hd ms kv vv tv, Both w tw tws s T R base hd ms kv vv tv W
section
variable {w W W' : World} {T R base : Nat} {tws : List Int} {tw kv vv tv : Value} {s : List Nd × Nat} {hd : Nw} {ms : List Nw}
/-- a slice that may be written without harm -/
def Free (lo : Nat) (hd : Nw) (ms : List Nw) (W : World) (A : Option Addr) (n : Nat) : Prop := 0 < n → ∃ g cs, A = some ⟨g, 0, none⟩ ∧ Blk W g 5 cs ∧ n ≤ cs.size ∧ ¬ Foot hd ms g ∧ lo ≤ g
theorem Free.set {lo n g : Nat} {A : Option Addr} (h : Free lo hd ms W A n) {cs : Array Value} (hb : Blk W g 5 cs) (i : Nat) (u : Value) : Free lo hd ms (W.setCell ⟨g, i, none⟩ u) A n := fun h0 => by
  obtain ⟨g', cs', e, hb', hn, hf, hl⟩ := h h0
  by_cases eg : g' = g
  · subst eg
    exact ⟨g', _, e, hb'.put i u, by simpa using hn, hf, hl⟩
  · exact ⟨g', cs', e, hb'.far (by simpa using eg) u, hn, hf, hl⟩
theorem Both.zed (h : Both w tw tws s T R base hd ms kv vv tv W) {g : Nat} {cs : Array Value} (hb : Blk W g 5 cs) (hf : ¬ Foot hd ms g) (hl : w.heap.size ≤ g) (i : Nat) (u : Value) : Both w tw tws s T R base hd ms kv vv tv (W.setCell ⟨g, i, none⟩ u) :=
  ⟨h.tm.zed hb hf i u, h.rt.zed hb i u, h.sep, h.bel.setCell (p := ⟨g, i, none⟩) hl u, h.low⟩
theorem Both.below {B : Nat} (h : Both w tw tws s T R base hd ms kv vv tv W) (hb : Below B W W') (hB : W.heap.size ≤ B) : Both w tw tws s T R base hd ms kv vv tv W' :=
  ⟨h.tm.below hb hB, h.rt.below hb hB, h.sep, h.bel.trans (hb.mono (Nat.le_trans h.bel.size hB)), h.low⟩
end

/-- behind the program's Put -/
theorem both_put {w W W' : World} {T R base : Nat} {tws : List Int} {tw kv vv tv : Value} {s : List Nd × Nat} {hd : Nw} {ms : List Nw} {k v : Key} {e : Ending} (h : Both w tw tws s T R base hd ms kv vv tv W) (hD : Did W T base tws s.1 s.2 hd ms k v e W') :
    ∃ ms', e = .returned (.int .i64 0) ∧ Tm W' T base tws (stepP tws s (k, v)).1 (stepP tws s (k, v)).2 false hd ms' ∧ Rt W' R base tw kv vv tv s.1 s.2 ∧ Below w.heap.size w W' ∧ (∀ lo A n, lo ≤ W.heap.size → Free lo hd ms W A n → Free lo hd ms' W' A n) ∧ (∀ g cs, Blk W g 24 cs → Blk W' g 24 cs) := by
  obtain ⟨ms', h1, h2⟩ := hD.tm
  have hTb : ∀ g, g = T ∨ Foot hd ms g → base ≤ g := fun g hg => by
    rcases hg with rfl | hg
    · exact h.tm.low
    · exact (h.tm.sl.foot_kind hg).1
  have hk : ∀ (g : Nat) (t : TypeId) (cs : Array Value), Blk W g t cs → ¬ Foot hd ms g → t ≠ 47 → Blk W' g t cs := fun g t cs hb hf ht => hD.moved.at_ hb (fun hp => by
    rcases hp with rfl | hp
    · obtain ⟨u, hb', _⟩ := h.tm.tab
      exact ht (kind_ne hb hb')
    · exact hf hp)
  refine ⟨ms', hD.ok, h1, h.rt.moved_t h.tm hD.moved, ?_, fun lo A n hlo hF h0 => ?_, fun g cs hb => hk g 24 cs hb (fun hf => h.tm.sl.not_foot hb (by decide) (by decide) (by decide) hf) (by decide)⟩
  · exact h.bel.trans (hD.moved.below (fun g hg => Nat.le_trans h.low.1 (hTb g hg)) h.bel.size)
  · obtain ⟨g, cs, e, hb, hn, hf, hl⟩ := hF h0
    refine ⟨g, cs, e, hk g 5 cs hb hf (by decide), hn, fun hf' => ?_, hl⟩
    rcases h2 g hf' with h3 | h3
    · exact hf h3
    · have := hb.lt; omega
/-- .. and behind the document's -/
theorem both_rput {w W W' : World} {T R base : Nat} {tws : List Int} {tw kv vv tv : Value} {s s' : List Nd × Nat} {hd : Nw} {ms : List Nw} {k v : Key} {e : Ending} (hT : Tm W T base tws s'.1 s'.2 false hd ms) (hR : Rt W R base tw kv vv tv s.1 s.2) (hb : Below w.heap.size w W) (hlow : w.heap.size ≤ base ∧ base ≤ R)
    (hs : s' = stepP tws s (k, v)) (hD : RDid W R base tw vv tws s.1 s.2 k v e W') :
    ∃ kv' vv' tv', e = .returned (.int .i64 0) ∧ Both w tw tws s' T R base hd ms kv' vv' tv' W' ∧ (∀ lo A n, Free lo hd ms W A n → Free lo hd ms W' A n) ∧ (∀ g cs, Blk W g 24 cs → Blk W' g 24 cs) := by
  obtain ⟨kv', vv', tv', h1, h2, h3⟩ := hD.rt
  subst hs
  have hk : ∀ (g : Nat) (t : TypeId) (cs : Array Value), Blk W g t cs → t ≠ 72 → t ≠ 9 → Blk W' g t cs := fun g t cs hb ht ht' => hD.moved.at_ hb (fun hp => by
    rcases hp with rfl | hp
    · exact ht (kind_ne hb hR.tab)
    · obtain ⟨cs', r', h4⟩ := ownG hR.vals hp
      exact ht' (kind_ne hb h4))
  refine ⟨kv', vv', tv', hD.ok, ⟨hT.moved_r hR hD.moved, h1, h2, hb.trans (hD.moved.below (fun g hg => ?_) hb.size), hlow⟩, fun lo A n hF h0 => ?_, fun g cs hb => hk g 24 cs hb (by decide) (by decide)⟩
  · rcases hg with rfl | hg
    · omega
    · have := (owns_ltG hR.vals hg).1; omega
  · obtain ⟨g, cs, e, hb, hn, hf, hl⟩ := hF h0
    exact ⟨g, cs, e, hk g 5 cs hb (by decide) (by decide), hn, hf, hl⟩

/-- bytes copied -/
theorem copy_run {w : World} {A : Option Addr} {n c B : Nat} {ks : List UInt8} (h : Bs w B A n c ks) (hB : B ≤ w.heap.size) (hn : n ≤ 1000000) :
    ∃ A' c' w', (Builtin.append_ #[22, 22] 22 #[.slice none 0 0, .slice A n c]).run Try.prog w = .ok (.slice A' n c') w' ∧ Bs w' w'.heap.size A' n c' ks ∧ Below w.heap.size w w' ∧ (0 < n → ∃ g cs, A' = some ⟨g, 0, none⟩ ∧ Blk w' g 5 cs ∧ n ≤ cs.size ∧ w.heap.size ≤ g) := by
  have hl := h.len
  obtain ⟨v', w', hrun, hm, hg, _⟩ := append_mine (P := Try.prog) 22 Try.underlying22 info5 (Mine.nil 5 w w.heap.size) (Nat.le_refl _) (h.more hB) (by simpa using (by omega : n ≤ 140737488351232))
  rw [List.nil_append] at hm
  obtain ⟨A', c', rfl, hbs, _⟩ := hm.bs (by omega)
  subst hl
  refine ⟨A', c', w', hrun, hbs, (Mine.nil 5 w w.heap.size).grown hg (Nat.le_refl _) (Nat.le_refl _), fun h0 => ?_⟩
  rcases hm.2 with ⟨_, h1⟩ | ⟨g, cap, cur, e, hb, hh, hnc, hcm, hcs, _⟩
  · omega
  · injection e with e1 e2 e3
    exact ⟨g, cur, e1, hh, by omega, hb⟩
theorem ints_run {w : World} {A : Option Addr} {n c B : Nat} {zs : List Int} (h : Sl w B A n c (zs.map iv)) (hB : B ≤ w.heap.size) (hn : n ≤ 1000000) :
    ∃ A' c' w', (Builtin.append_ #[27, 27] 27 #[.slice none 0 0, .slice A n c]).run Try.prog w = .ok (.slice A' n c') w' ∧ Sl w' w'.heap.size A' n c' (zs.map iv) ∧ Below w.heap.size w w' := by
  have hl : zs.length = n := by have := h.len; simpa using this
  cases A with
  | none =>
    have hz : zs = [] := by
      rcases zs with _ | ⟨z, r⟩
      · rfl
      · obtain ⟨b, off, e, _⟩ := h.row (by simp); cases e
    subst hz
    obtain rfl : n = 0 := by simpa using hl.symm
    obtain ⟨i0, hi, _, _, _⟩ := info_parts info3
    refine ⟨none, 0, w, ?_, Sl.nil _ _ _ _, Below.refl _ _⟩
    simp [Builtin.append_, run_underlying Try.underlying27, sizeOf, typeInfo, hi, Builtin.lenOf, Builtin.firstCells]
  | some a =>
    obtain ⟨v', w', hrun, hm, hg⟩ := append_ints (P := Try.prog) 27 Try.underlying27 info3 (MineI.nil w w.heap.size) (Nat.le_refl _) h (by simpa using hn)
    rw [List.nil_append] at hm
    obtain ⟨A', L', c', rfl, hL, hs⟩ := hm.sl (by omega)
    rw [hl] at hL
    subst hL
    exact ⟨A', c', w', hrun, hs, (MineI.nil w w.heap.size).grown hg (Nat.le_refl _) (Nat.le_refl _)⟩

/-- several ways that end alike go on as one -/
theorem wp_cut_at {P : Program} {c : Code} {Q : Exit → Act → World → Prop} {a : Act} {w : World} (A : Act) (I : World → Prop) (h : ∀ K : Act → World → Prop, (∀ w', I w' → K A w') → c.wp P (fun e a' w' => e = .normal ∧ K a' w') a w) (hq : ∀ w', I w' → Q .normal A w') : c.wp P Q a w :=
  wp_mono (h (fun a' w' => I w' ∧ a' = A) (fun _ hI => ⟨hI, rfl⟩)) (fun e a' w' ⟨h1, h2, h3⟩ => by subst h1; subst h3; exact hq w' h2)

set_option maxRecDepth 100000 in
set_option maxHeartbeats 8000000 in
theorem both_any (tws : List Int) (TA : Option Addr) (tn tc' : Nat) (fs : List Pr) (LA : Option Addr) (ln lc : Nat) (w : World) (ht : Sl w w.heap.size TA tn tc' (tws.map iv)) (hz : ∀ z ∈ tws, -9223372036854775808 ≤ z ∧ z ≤ 9223372036854775807) (htn : tn ≤ 1000000)
    (hl : ReadA w (.slice LA ln lc) fs) (hln : fs.length = ln) (hf : fs.length + sizeP fs ≤ 4000) :
    Calls Try.prog 21 #[.slice TA tn tc', .slice LA ln lc] w fun e w' => ∃ T R base, e = .returned (.tuple #[.pointer (some ⟨T, 0, none⟩), .pointer (some ⟨R, 0, none⟩), .bool true]) ∧ BothE w (.slice TA tn tc') tws (putsP tws fs) T R base w' := by
  obtain ⟨A', c', w1, hrun, hs1, hB1⟩ := ints_run ht (Nat.le_refl _) htn
  obtain ⟨A0, c0, e0, HH⟩ := hl
  injection e0 with e1 e2 e3
  subst e1
  clear e2 e3
  have Ht := hide ht
  have Hz := hide hz
  have Hh := hide HH
  have Hln := hide hln
  have Hf := hide hf
  have Hpf := hide (puts_facts tws fs)
  have Htl := hide (show tws.length = tn by have := ht.len; simpa using this)
  have Htn := hide htn
  clear ht hz hf HH
  go_enter Try.func21, Try.ntmps21
  go_wp2_with (at_builtin; refine wpList_append_run rfl _ _ 27 rfl _ _ _ rfl rfl hrun ?_)
  (try simp only [Act.put, List.getElem_toArray, List.getElem_cons_succ, List.getElem_cons_zero, List.setIfInBounds_toArray, List.set_cons_zero, List.set_cons_succ])
  go_wp2_with fail
  refine (new_any tws A' tn c' _ w1 hs1 (Nat.le_refl _) htn).mono ?_
  rintro e w2 ⟨T, hd, rfl, ht2, hB2⟩
  have Ht2 := hide ht2
  have HB1 := hide hB1
  have HB2 := hide hB2
  clear hrun ht2 hB1 hB2 hs1 hln htn
  go_wp2
  obtain ⟨W0, hW0⟩ : ∃ W0, w2.alloc (.cells #[.slice TA tn tc', .slice none 0 0, .slice none 0 0, .slice none 0 0, .int .i64 0, .int .i64 0, .bool false] 72) = W0 := ⟨_, rfl⟩
  rw [hW0]
  obtain ⟨R, hR⟩ : ∃ R, w2.heap.size = R := ⟨_, rfl⟩
  rw [hR]
  obtain ⟨base, hbase⟩ : ∃ base, w1.heap.size = base := ⟨_, rfl⟩
  have hwb : w.heap.size ≤ base := by have := HB1.out.size; omega
  have hbR : base ≤ R := by have := HB2.out.size; omega
  have hbW0 : Both w (.slice TA tn tc') tws (putsP tws []) T R base hd [] (.slice none 0 0) (.slice none 0 0) (.slice none 0 0) W0 := by
    have h1 := Ht2.out.alloc (.cells #[.slice TA tn tc', .slice none 0 0, .slice none 0 0, .slice none 0 0, .int .i64 0, .int .i64 0, .bool false] 72)
    have h2 := Blk.new w2 72 #[.slice TA tn tc', .slice none 0 0, .slice none 0 0, .slice none 0 0, .int .i64 0, .int .i64 0, .bool false]
    have h3 : Below w.heap.size w W0 := by
      rw [← hW0]
      exact (HB1.out.trans (HB2.out.mono HB1.out.size)).alloc (by omega) _
    rw [hW0, hbase] at h1
    rw [hW0, hR] at h2
    exact ⟨h1, ⟨h2, ⟨rfl, .inl ⟨rfl, rfl⟩⟩, ⟨rfl, .inl ⟨rfl, rfl⟩⟩, ⟨rfl, .inl ⟨rfl, rfl⟩⟩⟩, .inl rfl, h3, hwb, hbR⟩
  have HbW0 := hide hbW0
  clear hbW0 hW0 hR hbase Ht2 HB1 HB2
  have Hwb := hide hwb
  have HbR := hide hbR
  clear hwb hbR
  go_loopw [25] (fun t25 wq => ∃ i : Nat, i ≤ ln ∧ t25 = .int .i64 (i : Int) ∧ BothE w (.slice TA tn tc') tws (putsP tws (fs.take i)) T R base wq) (fun t25 _ => ln - (intOf t25).toNat)
  case atStart => exact ⟨0, Nat.zero_le _, rfl, hd, [], _, _, _, HbW0.out⟩
  case round =>
    obtain ⟨i, hi, rfl, hd', ms, kv, vv, tv, hB⟩ := hrel
    by_cases hlt : i < ln
    · have hx : i < fs.length := by have := Hln.out; omega
      obtain ⟨g, off, K, kl, kc, V, vl, vc, rfl, c0, c1, b1, b2⟩ := Hh.out i hx
      have l1 := b1.len
      have l2 := b2.len
      have hfx := Hpf.out i (by omega)
      have Htake := hide (putsP_take (tw := tws) hx)
      have hszx : (fs[i].1.length + fs[i].2.length) + sizeP (fs.take i) ≤ 4000 := by
        have q1 := sizeP_take hx
        have q2 := sizeP_take_le fs (i + 1)
        have q3 := Hf.out
        omega
      have hlf : fs.length ≤ 4000 := by have := Hf.out; omega
      obtain ⟨s, hs⟩ : ∃ s, putsP tws (fs.take i) = s := ⟨_, rfl⟩
      rw [hs] at hfx hB Htake
      have hsl : s.1.length ≤ 4000 := by omega
      have hsz : sizeN s.1 ≤ 4000 := by omega
      have hcn : s.2 ≤ 4000 * (12 * 4001) := by
        have q4 : i * (12 * (fs.length + 1)) ≤ 4000 * (12 * 4001) := Nat.mul_le_mul (by omega) (Nat.mul_le_mul (Nat.le_refl _) (by omega))
        omega
      have hcc := cntN_bound hfx.2.2.1 fs[i].1
      have Htall := hide hfx.2.2.1
      clear hfx hs
      obtain ⟨f, hfe⟩ : ∃ f, fs[i] = f := ⟨_, rfl⟩
      rw [hfe] at Htake b1 b2 l1 l2 hszx hcc
      obtain ⟨kk, vb⟩ := f
      simp only at b1 b2 l1 l2 hszx hcc
      have hkb : kl ≤ 4000 := by omega
      have hvb : vl ≤ 4000 := by omega
      have c0' : wr.cell? ⟨g, off + i * 2, none⟩ = some (.slice K kl kc) := (hB.bel.cell (p := ⟨g, off + i * 2, none⟩) (World.block_lt_of_cell? w ⟨g, off + i * 2, none⟩ c0)).trans c0
      have c1' : wr.cell? ⟨g, off + i * 2 + 1, none⟩ = some (.slice V vl vc) := (hB.bel.cell (p := ⟨g, off + i * 2 + 1, none⟩) (World.block_lt_of_cell? w ⟨g, off + i * 2 + 1, none⟩ c1)).trans c1
      have i0 : (0 : Int) ≤ (i : Int) := by omega
      have i1 : (i : Int) < (ln : Int) := by omega
      have Hsm := hide (fun (j : Nat) (h : j < 4001) => (show IntKind.i64.wrap ((j : Int) + 1) = (j : Int) + 1 by simp [IntKind.wrap, IntKind.bits, IntKind.signed]; omega))
      have Hw1 := hide (show IntKind.i64.wrap ((i : Int) + 1) = (i : Int) + 1 by simp [IntKind.wrap, IntKind.bits, IntKind.signed]; omega)
      have HBo := hide hB
      have Hb1 := hide b1
      have Hb2 := hide b2
      have Hnum := hide (And.intro hsl (And.intro hsz (And.intro hcn (And.intro hcc (And.intro hkb hvb)))))
      clear hfe c0 c1 b1 b2 l1 l2 hB hsl hsz hcn hcc hkb hvb hszx hlf
      go_wp2
      obtain ⟨wb, hwb'⟩ : ∃ wb, wr.alloc (.cells #[.slice K kl kc, .slice V vl vc] 24) = wb := ⟨_, rfl⟩
      have hP := Blk.new wr 24 #[.slice K kl kc, .slice V vl vc]
      have hBb := HBo.out.below ((Below.refl _ wr).alloc (Nat.le_refl _) (.cells #[.slice K kl kc, .slice V vl vc] 24)) (Nat.le_refl _)
      rw [hwb'] at hP hBb ⊢
      obtain ⟨P, hPe⟩ : ∃ P, wr.heap.size = P := ⟨_, rfl⟩
      rw [hPe] at hP ⊢
      have hnum := Hnum.out
      obtain ⟨A3, c3, wk, hrun1, hk3, hBk, hF3⟩ := copy_run (w := wb.drew) ((Hb1.out.below hBb.bel).drewN 1) hBb.bel.size (by omega)
      have hbk : Below wb.heap.size wb wk := (below_drew wb).trans hBk
      have hBk2 := hBb.below hbk (Nat.le_refl _)
      obtain ⟨A4, c4, wv, hrun2, hk4, hBv, hF4⟩ := copy_run (w := wk) (Hb2.out.below hBk2.bel) hBk2.bel.size (by omega)
      have hsk : wb.heap.size ≤ wk.heap.size := hbk.size
      have hsv : wk.heap.size ≤ wv.heap.size := hBv.size
      have hbv : Below wb.heap.size wb wv := hbk.trans (hBv.mono hsk)
      have hBv2 := hBb.below hbv (Nat.le_refl _)
      have hPk : Blk wk P 24 #[.slice K kl kc, .slice V vl vc] := hP.below hbk hP.lt
      have hPv : Blk wv P 24 #[.slice K kl kc, .slice V vl vc] := hP.below hbv hP.lt
      have hnf : ∀ g, wb.heap.size ≤ g → ¬ Foot hd' ms g := fun g hg hf => by have := hBb.tm.sl.foot_lt hf; omega
      have HF3 := hide (show Free w.heap.size hd' ms wv A3 kl from fun h0 => by
        obtain ⟨g, cs, e, hb, hn, hl⟩ := hF3 h0
        exact ⟨g, cs, e, hb.below hBv hb.lt, hn, hnf g hl, Nat.le_trans hBb.bel.size hl⟩)
      have HF4 := hide (show Free w.heap.size hd' ms wv A4 vl from fun h0 => by
        obtain ⟨g, cs, e, hb, hn, hl⟩ := hF4 h0
        exact ⟨g, cs, e, hb, hn, hnf g (Nat.le_trans hsk hl), Nat.le_trans (Nat.le_trans hBb.bel.size hsk) hl⟩)
      have hT3 : 0 < kl → ∀ a, A3 = some a → a.block ≠ T := fun h0 a e e' => by
        obtain ⟨g, cs, e2, hb, hn, hl⟩ := hF3 h0
        rw [e2] at e
        injection e with e
        subst e
        have hl : wb.heap.size ≤ g := hl
        have := hBb.tm.lt
        simp only at e'
        omega
      have hT4 : 0 < vl → ∀ a, A4 = some a → a.block ≠ T := fun h0 a e e' => by
        obtain ⟨g, cs, e2, hb, hn, hl⟩ := hF4 h0
        rw [e2] at e
        injection e with e
        subst e
        have := hBb.tm.lt
        simp only at e'
        omega
      have p0 : wb.drew.cell? ⟨P, 0, none⟩ = some (.slice K kl kc) ∧ wb.drew.cell? ⟨P, 1, none⟩ = some (.slice V vl vc) := ⟨hP.cell 0, hP.cell 1⟩
      have p1 : wk.cell? ⟨P, 0, none⟩ = some (.slice K kl kc) ∧ wk.cell? ⟨P, 1, none⟩ = some (.slice V vl vc) := ⟨hPk.cell 0, hPk.cell 1⟩
      have p2 : wv.cell? ⟨P, 0, none⟩ = some (.slice K kl kc) ∧ wv.cell? ⟨P, 1, none⟩ = some (.slice V vl vc) := ⟨hPv.cell 0, hPv.cell 1⟩
      -- the program's Put, the document's
      have hk3v : Bs wv wv.heap.size A3 kl c3 kk := (hk3.below hBv).more hsv
      have Hput := hide (put_any T base tws s.1 s.2 hd' ms kk vb A3 A4 kl c3 vl c4 wv.drew (hBv2.tm.drewN 1) (hk3v.drewN 1) hT3 (hk4.drewN 1) hT4 (by omega) (by omega) (by omega) (by omega) (by omega) (by rw [Htl.out]; have := Htn.out; omega) Hz.out)
      have HB9 := hide (show Both w (.slice TA tn tc') tws s T R base hd' ms kv vv tv wv.drew from hBv2.below (below_drew wv) (Nat.le_refl _))
      have Hord := hide hBv2.tm.sl.ord
      have HPv := hide (show Blk wv.drew P 24 #[.slice K kl kc, .slice V vl vc] from hPv)
      have HTA := hide (show 0 < tn → ∀ a, TA = some a → a.block ≠ R from fun h0 a e e' => by
        obtain ⟨b, off, e2, hb, _⟩ := Ht.out.at_ h0
        rw [e2] at e
        injection e with e
        subst e
        have := Hwb.out
        have := HbR.out
        simp only at e'
        omega)
      have HC := hide (fun (W : World) (hp : Blk W P 24 #[.slice K kl kc, .slice V vl vc]) (hb : Below w.heap.size w W) => (⟨hp.cell 0, hp.cell 1, strAt (Hb1.out.below hb), strAt (Hb2.out.below hb)⟩ : W.cell? ⟨P, 0, none⟩ = some (.slice K kl kc) ∧ W.cell? ⟨P, 1, none⟩ = some (.slice V vl vc) ∧ StrAt K kl kc kk W ∧ StrAt V vl vc vb W))
      have Hrp := hide (fun (W : World) (hr : Rt W R base (.slice TA tn tc') kv vv tv s.1 s.2) (hb : Below w.heap.size w W) (hW : base ≤ W.heap.size) => rput_any R base kv vv tv tws TA tn tc' s.1 s.2 kk vb W hr HBo.out.sep hW ((Ht.out.below hb).more hb.size) HTA.out Htn.out Hz.out (by omega) Htall.out Hord.out (by omega))
      unfold strV at Hrp
      have HTlv := hide (show ∀ W : World, Tm W T base tws (stepP tws s (kk, vb)).1 (stepP tws s (kk, vb)).2 false hd' ms → T < W.heap.size from fun W h => h.lt)
      clear hwb' hBb hP hPe hnum hk3 hBk hF3 hbk hBk2 hk4 hBv hF4 hbv hBv2 hPk hPv hnf hT3 hT4 hk3v hsk hsv
      clear c0' c1'
      refine wp_region_held_drew (S := fun W' => W'.cell? ⟨P, 0, none⟩ = some (.slice K kl kc) ∧ W'.cell? ⟨P, 1, none⟩ = some (.slice V vl vc)) (by kernel_rfl) (p0) (fun hHeld => ?_)
      refine wpAnyH_take (i := 0) (v := ?_) rfl (by kernel_rfl) (by kernel_rfl) (by kernel_rfl) (fun _ _ _ h => h) (Or.inl ⟨by kernel_rfl, ?_⟩) (by assumption) ?_
      rotate_left
      · (intro w hSw; (try dsimp only at hSw); go_simp; try with_reducible rfl)
      (try simp only [Act.put, List.getElem_toArray, List.getElem_cons_succ, List.getElem_cons_zero, List.setIfInBounds_toArray, List.set_cons_zero, List.set_cons_succ])
      refine wpAnyH_take (i := 1) (v := ?_) rfl (by kernel_rfl) (by kernel_rfl) (by kernel_rfl) (fun _ _ _ h => h) (Or.inl ⟨by kernel_rfl, ?_⟩) (by assumption) ?_
      rotate_left
      · (intro w hSw; (try dsimp only at hSw); go_simp; try with_reducible rfl)
      (try simp only [Act.put, List.getElem_toArray, List.getElem_cons_succ, List.getElem_cons_zero, List.setIfInBounds_toArray, List.set_cons_zero, List.set_cons_succ])
      refine wpAnyH_take (i := 3) (v := ?_) rfl (by kernel_rfl) (by kernel_rfl) (by kernel_rfl) (fun _ _ _ h => h) (Or.inl ⟨by kernel_rfl, ?_⟩) (by assumption) ?_
      rotate_left
      · (intro w hSw; (try dsimp only at hSw); go_simp; try with_reducible rfl)
      (try simp only [Act.put, List.getElem_toArray, List.getElem_cons_succ, List.getElem_cons_zero, List.setIfInBounds_toArray, List.set_cons_zero, List.set_cons_succ])
      refine wpAnyH_take (i := 4) (v := ?_) rfl (by kernel_rfl) (by kernel_rfl) (by kernel_rfl) (fun _ _ _ h => h) (Or.inl ⟨by kernel_rfl, ?_⟩) (by assumption) ?_
      rotate_left
      · (intro w hSw; (try dsimp only at hSw); go_simp; try with_reducible rfl)
      (try simp only [Act.put, List.getElem_toArray, List.getElem_cons_succ, List.getElem_cons_zero, List.setIfInBounds_toArray, List.set_cons_zero, List.set_cons_succ])
      refine wpAnyH_ready (rs := [2]) (by kernel_rfl) (by simp) (AllReadyH.cons rfl (fun K hK => ?_) AllReadyH.nil)
      refine step_append (by kernel_rfl) rfl rfl rfl hrun1 ?_
      refine hK.out _ _ (p1) (fun hHeld => ?_)
      clear hK K
      (try simp only [Act.put, List.getElem_toArray, List.getElem_cons_succ, List.getElem_cons_zero, List.setIfInBounds_toArray, List.set_cons_zero, List.set_cons_succ])
      refine wpAnyH_ready (rs := [5]) (by kernel_rfl) (by simp) (AllReadyH.cons rfl (fun K hK => ?_) AllReadyH.nil)
      refine step_append (by kernel_rfl) rfl rfl rfl hrun2 ?_
      refine hK.out _ _ (p2) (fun hHeld => ?_)
      clear hK K
      (try simp only [Act.put, List.getElem_toArray, List.getElem_cons_succ, List.getElem_cons_zero, List.setIfInBounds_toArray, List.set_cons_zero, List.set_cons_succ])
      refine wpAnyH_take (i := 6) (v := ?_) rfl (by kernel_rfl) (by kernel_rfl) (by kernel_rfl) (fun _ _ _ h => h) (Or.inl ⟨by kernel_rfl, ?_⟩) (by assumption) ?_
      rotate_left
      · (intro w hSw; (try dsimp only at hSw); go_simp; try with_reducible rfl)
      (try simp only [Act.put, List.getElem_toArray, List.getElem_cons_succ, List.getElem_cons_zero, List.setIfInBounds_toArray, List.set_cons_zero, List.set_cons_succ])
      refine wpAnyH_take (i := 7) (v := ?_) rfl (by kernel_rfl) (by kernel_rfl) (by kernel_rfl) (fun _ _ _ h => h) (Or.inl ⟨by kernel_rfl, ?_⟩) (by assumption) ?_
      rotate_left
      · (intro w hSw; (try dsimp only at hSw); go_simp; try with_reducible rfl)
      (try simp only [Act.put, List.getElem_toArray, List.getElem_cons_succ, List.getElem_cons_zero, List.setIfInBounds_toArray, List.set_cons_zero, List.set_cons_succ])
      refine wpAnyH_done (by kernel_rfl) ?_ _
      clear hrun1 hrun2 p0 p1 p2
      obtain ⟨s', hs'⟩ : ∃ s', stepP tws s (kk, vb) = s' := ⟨_, rfl⟩
      have hs2 : s'.2 ≤ 4611686018427387904 := by
        rw [← hs']
        have := Hnum.out
        simp only [stepP]
        omega
      rw [hs'] at Htake
      have Hs' := hide hs'
      clear hs' HTlv hHeld
      go_wp2
      refine wp_cut_at ?act (fun w' => ∃ ms' kv' vv' tv', Both w (.slice TA tn tc') tws s' T R base hd' ms' kv' vv' tv' w' ∧ Free w.heap.size hd' ms' w' A3 kl ∧ Free w.heap.size hd' ms' w' A4 vl) ?reg ?rest
      case reg =>
        intro K9 hK9
        have HK9 := hide hK9
        clear hK9
        refine wp_region_held_drew (S := fun W' => W'.cell? ⟨P, 0, none⟩ = some (.slice K kl kc) ∧ W'.cell? ⟨P, 1, none⟩ = some (.slice V vl vc) ∧ StrAt K kl kc kk W' ∧ StrAt V vl vc vb W') (by kernel_rfl) (HC.out _ HPv.out HB9.out.bel) (fun hHeld => ?_)
        refine wpAnyH_take (i := 0) (v := ?_) rfl (by kernel_rfl) (by kernel_rfl) (by kernel_rfl) (fun _ _ _ h => by cases h.1) (Or.inl ⟨by kernel_rfl, ?_⟩) (by assumption) ?_
        rotate_left
        · (intro w hSw; (try dsimp only at hSw); go_simp; try with_reducible rfl)
        (try simp only [Act.put, List.getElem_toArray, List.getElem_cons_succ, List.getElem_cons_zero, List.setIfInBounds_toArray, List.set_cons_zero, List.set_cons_succ])
        refine wpAnyH_take (i := 1) (v := ?_) rfl (by kernel_rfl) (by kernel_rfl) (by kernel_rfl) (fun _ _ _ h => by cases h.1) (Or.inl ⟨by kernel_rfl, ?_⟩) (by assumption) ?_
        rotate_left
        · (intro w hSw; (try dsimp only at hSw); go_simp; try with_reducible rfl)
        (try simp only [Act.put, List.getElem_toArray, List.getElem_cons_succ, List.getElem_cons_zero, List.setIfInBounds_toArray, List.set_cons_zero, List.set_cons_succ])
        refine wpAnyH_take (i := 2) (v := ?_) rfl (by kernel_rfl) (by kernel_rfl) (by kernel_rfl) (fun _ _ _ h => by cases h.1) (Or.inl ⟨by kernel_rfl, ?_⟩) (by assumption) ?_
        rotate_left
        · (intro w hSw; (try dsimp only at hSw); go_simp; try with_reducible rfl)
        (try simp only [Act.put, List.getElem_toArray, List.getElem_cons_succ, List.getElem_cons_zero, List.setIfInBounds_toArray, List.set_cons_zero, List.set_cons_succ])
        refine wpAnyH_take (i := 4) (v := ?_) rfl (by kernel_rfl) (by kernel_rfl) (by kernel_rfl) (fun _ _ _ h => by cases h.1) (Or.inl ⟨by kernel_rfl, ?_⟩) (by assumption) ?_
        rotate_left
        · (intro w hSw; (try dsimp only at hSw); go_simp; try with_reducible rfl)
        (try simp only [Act.put, List.getElem_toArray, List.getElem_cons_succ, List.getElem_cons_zero, List.setIfInBounds_toArray, List.set_cons_zero, List.set_cons_succ])
        refine wpAnyH_take (i := 5) (v := ?_) rfl (by kernel_rfl) (by kernel_rfl) (by kernel_rfl) (fun _ _ _ h => by cases h.1) (Or.inl ⟨by kernel_rfl, ?_⟩) (by assumption) ?_
        rotate_left
        · (intro w hSw; (try dsimp only at hSw); go_simp; try with_reducible rfl)
        (try simp only [Act.put, List.getElem_toArray, List.getElem_cons_succ, List.getElem_cons_zero, List.setIfInBounds_toArray, List.set_cons_zero, List.set_cons_succ])
        refine wpAnyH_take (i := 6) (v := ?_) rfl (by kernel_rfl) (by kernel_rfl) (by kernel_rfl) (fun _ _ _ h => by cases h.1) (Or.inl ⟨by kernel_rfl, ?_⟩) (by assumption) ?_
        rotate_left
        · (intro w hSw; (try dsimp only at hSw); go_simp; try with_reducible rfl)
        (try simp only [Act.put, List.getElem_toArray, List.getElem_cons_succ, List.getElem_cons_zero, List.setIfInBounds_toArray, List.set_cons_zero, List.set_cons_succ])
        refine wpAnyH_take (i := 7) (v := ?_) rfl (by kernel_rfl) (by kernel_rfl) (by kernel_rfl) (fun _ _ _ h => by cases h.1) (Or.inl ⟨by kernel_rfl, ?_⟩) (by assumption) ?_
        rotate_left
        · (intro w hSw; (try dsimp only at hSw); go_simp; try with_reducible rfl)
        (try simp only [Act.put, List.getElem_toArray, List.getElem_cons_succ, List.getElem_cons_zero, List.setIfInBounds_toArray, List.set_cons_zero, List.set_cons_succ])
        refine wpAnyH_take (i := 8) (v := ?_) rfl (by kernel_rfl) (by kernel_rfl) (by kernel_rfl) (fun _ _ _ h => by cases h.1) (Or.inl ⟨by kernel_rfl, ?_⟩) (by assumption) ?_
        rotate_left
        · (intro w hSw; (try dsimp only at hSw); go_simp; try with_reducible rfl)
        (try simp only [Act.put, List.getElem_toArray, List.getElem_cons_succ, List.getElem_cons_zero, List.setIfInBounds_toArray, List.set_cons_zero, List.set_cons_succ])
        refine wpAnyH_take (i := 9) (v := ?_) rfl (by kernel_rfl) (by kernel_rfl) (by kernel_rfl) (fun _ _ _ h => by cases h.1) (Or.inl ⟨by kernel_rfl, ?_⟩) (by assumption) ?_
        rotate_left
        · (intro w hSw; (try dsimp only at hSw); go_simp; try with_reducible rfl)
        (try simp only [Act.put, List.getElem_toArray, List.getElem_cons_succ, List.getElem_cons_zero, List.setIfInBounds_toArray, List.set_cons_zero, List.set_cons_succ])
        refine wpAnyH_take (i := 10) (v := ?_) rfl (by kernel_rfl) (by kernel_rfl) (by kernel_rfl) (fun _ _ _ h => by cases h.1) (Or.inl ⟨by kernel_rfl, ?_⟩) (by assumption) ?_
        rotate_left
        · (intro w hSw; (try dsimp only at hSw); go_simp; try with_reducible rfl)
        (try simp only [Act.put, List.getElem_toArray, List.getElem_cons_succ, List.getElem_cons_zero, List.setIfInBounds_toArray, List.set_cons_zero, List.set_cons_succ])
        refine wpAnyH_ready (rs := [3]) (by kernel_rfl) (by simp) (AllReadyH.cons rfl (fun K hK => ?_) AllReadyH.nil)
        go_simp
        refine Calls.mono Hput.out ?_
        rintro e wp hD
        obtain ⟨ms', rfl, hT', hR', hbl', hFr, hB24⟩ := both_put HB9.out hD
        rw [Hs'.out] at hT'
        refine hK.out _ _ (HC.out _ (hB24 _ _ HPv.out) hbl') (fun hHeld => ?_)
        clear hK K
        (try simp only [Act.put, List.getElem_toArray, List.getElem_cons_succ, List.getElem_cons_zero, List.setIfInBounds_toArray, List.set_cons_zero, List.set_cons_succ])
        refine wpAnyH_ready (rs := [11]) (by kernel_rfl) (by simp) (AllReadyH.cons rfl (fun K hK => ?_) AllReadyH.nil)
        go_simp
        refine Calls.mono (Hrp.out wp hR' hbl' (Nat.le_of_lt (Nat.lt_of_le_of_lt hT'.low hT'.lt))) ?_
        rintro e wq hD2
        obtain ⟨kv', vv', tv', rfl, hBq, hFr2, hB24'⟩ := both_rput hT' hR' hbl' ⟨Hwb.out, HbR.out⟩ Hs'.out.symm hD2
        have HS11 := hide (HC.out _ (hB24' _ _ (hB24 _ _ HPv.out)) hBq.bel)
        have HG3 := hide (hFr2 _ _ _ (hFr _ _ _ HB9.out.bel.size HF3.out))
        have HG4 := hide (hFr2 _ _ _ (hFr _ _ _ HB9.out.bel.size HF4.out))
        have HBq := hide hBq
        have q5 : wq.cell? ⟨R, 5, none⟩ = some (.int .i64 (s'.2 : Int)) := hBq.rt.tab.cell 5
        clear hT' hR' hbl' hFr hB24 hFr2 hB24' hBq hD hD2
        refine hK.out _ _ (HS11.out) (fun hHeld => ?_)
        clear hK K
        (try simp only [Act.put, List.getElem_toArray, List.getElem_cons_succ, List.getElem_cons_zero, List.setIfInBounds_toArray, List.set_cons_zero, List.set_cons_succ])
        refine wpAnyH_take (i := 12) (v := ?_) rfl (by kernel_rfl) (by kernel_rfl) (by kernel_rfl) (fun _ _ _ h => by cases h.1) (Or.inl ⟨by kernel_rfl, ?_⟩) (by assumption) ?_
        rotate_left
        · (intro w hSw; (try dsimp only at hSw); go_simp; try with_reducible rfl)
        (try simp only [Act.put, List.getElem_toArray, List.getElem_cons_succ, List.getElem_cons_zero, List.setIfInBounds_toArray, List.set_cons_zero, List.set_cons_succ])
        refine wpAnyH_take (i := 13) (v := ?_) rfl (by kernel_rfl) (by kernel_rfl) (by kernel_rfl) (fun _ _ _ h => by cases h.1) (Or.inl ⟨by kernel_rfl, ?_⟩) (by assumption) ?_
        rotate_left
        · (intro w hSw; (try dsimp only at hSw); go_simp; try with_reducible rfl)
        (try simp only [Act.put, List.getElem_toArray, List.getElem_cons_succ, List.getElem_cons_zero, List.setIfInBounds_toArray, List.set_cons_zero, List.set_cons_succ])
        refine wpAnyH_take (i := 14) (v := ?_) rfl (by kernel_rfl) (by kernel_rfl) (by kernel_rfl) (fun _ _ _ h => by cases h.1) (Or.inl ⟨by kernel_rfl, ?_⟩) (by assumption) ?_
        rotate_left
        · (intro w hSw; (try dsimp only at hSw); go_simp; try with_reducible rfl)
        (try simp only [Act.put, List.getElem_toArray, List.getElem_cons_succ, List.getElem_cons_zero, List.setIfInBounds_toArray, List.set_cons_zero, List.set_cons_succ])
        refine wpAnyH_take (i := 16) (v := ?_) rfl (by kernel_rfl) (by kernel_rfl) (by kernel_rfl) (fun _ _ _ h => by cases h.1) (Or.inl ⟨by kernel_rfl, ?_⟩) (by assumption) ?_
        rotate_left
        · (intro w hSw; (try dsimp only at hSw); go_simp; try with_reducible rfl)
        (try simp only [Act.put, List.getElem_toArray, List.getElem_cons_succ, List.getElem_cons_zero, List.setIfInBounds_toArray, List.set_cons_zero, List.set_cons_succ])
        refine wpAnyH_take (i := 17) (v := ?_) rfl (by kernel_rfl) (by kernel_rfl) (by kernel_rfl) (fun _ _ _ h => by cases h.1) (Or.inl ⟨by kernel_rfl, ?_⟩) (by assumption) ?_
        rotate_left
        · (intro w hSw; (try dsimp only at hSw); go_simp; try with_reducible rfl)
        (try simp only [Act.put, List.getElem_toArray, List.getElem_cons_succ, List.getElem_cons_zero, List.setIfInBounds_toArray, List.set_cons_zero, List.set_cons_succ])
        refine wpAnyH_take (i := 18) (v := ?_) rfl (by kernel_rfl) (by kernel_rfl) (by kernel_rfl) (fun _ _ _ h => by cases h.1) (Or.inl ⟨by kernel_rfl, ?_⟩) (by assumption) ?_
        rotate_left
        · (intro w hSw; (try dsimp only at hSw); go_simp; try with_reducible rfl)
        (try simp only [Act.put, List.getElem_toArray, List.getElem_cons_succ, List.getElem_cons_zero, List.setIfInBounds_toArray, List.set_cons_zero, List.set_cons_succ])
        refine wpAnyH_ready (rs := [15, 19]) (by kernel_rfl) (by simp) (AllReadyH.cons rfl (fun K hK => ?_) (AllReadyH.cons rfl (fun K hK => ?_) AllReadyH.nil))
        go_simp
        refine Calls.mono (steps_any T base tws s'.1 s'.2 false hd' ms' wq HBq.out.tm hs2) ?_
        rintro e w' ⟨rfl, rfl⟩
        refine hK.out _ _ (HS11.out) (fun hHeld => ?_)
        clear hK K
        (try simp only [Act.put, List.getElem_toArray, List.getElem_cons_succ, List.getElem_cons_zero, List.setIfInBounds_toArray, List.set_cons_zero, List.set_cons_succ])
        refine wpAnyH_ready (rs := [19]) (by kernel_rfl) (by simp) (AllReadyH.cons rfl (fun K hK => ?_) AllReadyH.nil)
        go_simp
        refine hK.out _ _ (HS11.out) (fun hHeld => ?_)
        clear hK K
        (try simp only [Act.put, List.getElem_toArray, List.getElem_cons_succ, List.getElem_cons_zero, List.setIfInBounds_toArray, List.set_cons_zero, List.set_cons_succ])
        refine wpAnyH_take (i := 20) (v := ?_) rfl (by kernel_rfl) (by kernel_rfl) (by kernel_rfl) (fun _ _ _ h => by cases h.1) (Or.inl ⟨by kernel_rfl, ?_⟩) (by assumption) ?_
        rotate_left
        · (intro w hSw; (try dsimp only at hSw); go_simp; try with_reducible rfl)
        (try simp only [Act.put, List.getElem_toArray, List.getElem_cons_succ, List.getElem_cons_zero, List.setIfInBounds_toArray, List.set_cons_zero, List.set_cons_succ])
        refine wpAnyH_take (i := 21) (v := ?_) rfl (by kernel_rfl) (by kernel_rfl) (by kernel_rfl) (fun _ _ _ h => by cases h.1) (Or.inl ⟨by kernel_rfl, ?_⟩) (by assumption) ?_
        rotate_left
        · (intro w hSw; (try dsimp only at hSw); go_simp; try with_reducible rfl)
        (try simp only [Act.put, List.getElem_toArray, List.getElem_cons_succ, List.getElem_cons_zero, List.setIfInBounds_toArray, List.set_cons_zero, List.set_cons_succ])
        refine wpAnyH_done (by kernel_rfl) ?_ _
        rotate_left
        go_simp
        refine hK.out _ _ (HS11.out) (fun hHeld => ?_)
        clear hK K
        (try simp only [Act.put, List.getElem_toArray, List.getElem_cons_succ, List.getElem_cons_zero, List.setIfInBounds_toArray, List.set_cons_zero, List.set_cons_succ])
        refine wpAnyH_ready (rs := [15]) (by kernel_rfl) (by simp) (AllReadyH.cons rfl (fun K hK => ?_) AllReadyH.nil)
        go_simp
        refine Calls.mono (steps_any T base tws s'.1 s'.2 false hd' ms' wq HBq.out.tm hs2) ?_
        rintro e w' ⟨rfl, rfl⟩
        refine hK.out _ _ (HS11.out) (fun hHeld => ?_)
        clear hK K
        (try simp only [Act.put, List.getElem_toArray, List.getElem_cons_succ, List.getElem_cons_zero, List.setIfInBounds_toArray, List.set_cons_zero, List.set_cons_succ])
        refine wpAnyH_take (i := 20) (v := ?_) rfl (by kernel_rfl) (by kernel_rfl) (by kernel_rfl) (fun _ _ _ h => by cases h.1) (Or.inl ⟨by kernel_rfl, ?_⟩) (by assumption) ?_
        rotate_left
        · (intro w hSw; (try dsimp only at hSw); go_simp; try with_reducible rfl)
        (try simp only [Act.put, List.getElem_toArray, List.getElem_cons_succ, List.getElem_cons_zero, List.setIfInBounds_toArray, List.set_cons_zero, List.set_cons_succ])
        refine wpAnyH_take (i := 21) (v := ?_) rfl (by kernel_rfl) (by kernel_rfl) (by kernel_rfl) (fun _ _ _ h => by cases h.1) (Or.inl ⟨by kernel_rfl, ?_⟩) (by assumption) ?_
        rotate_left
        · (intro w hSw; (try dsimp only at hSw); go_simp; try with_reducible rfl)
        (try simp only [Act.put, List.getElem_toArray, List.getElem_cons_succ, List.getElem_cons_zero, List.setIfInBounds_toArray, List.set_cons_zero, List.set_cons_succ])
        refine wpAnyH_done (by kernel_rfl) ?_ _
        rotate_left
        · refine ⟨rfl, ?_⟩
          exact HK9.out wq ⟨ms', kv', vv', tv', HBq.out, HG3.out, HG4.out⟩
        · refine ⟨rfl, ?_⟩
          exact HK9.out wq ⟨ms', kv', vv', tv', HBq.out, HG3.out, HG4.out⟩
      case rest =>
        rintro w9 ⟨ms', kv', vv', tv', hBq, hG3, hG4⟩
        have HBq := hide hBq
        have HG3 := hide hG3
        have HG4 := hide hG4
        clear hBq hG3 hG4 hs2
        go_wp2
        go_loopw [59] (fun t59 wx => ∃ j : Nat, j ≤ kl ∧ t59 = .int .i64 (j : Int) ∧ Both w (.slice TA tn tc') tws s' T R base hd' ms' kv' vv' tv' wx ∧ Free w.heap.size hd' ms' wx A3 kl ∧ Free w.heap.size hd' ms' wx A4 vl) (fun t59 _ => kl - (intOf t59).toNat)
        case atStart => exact ⟨0, Nat.zero_le _, rfl, HBq.out, HG3.out, HG4.out⟩
        case round =>
          obtain ⟨j, hj, rfl, hBj, hG3, hG4⟩ := hrel
          by_cases hjl : j < kl
          · obtain ⟨g3, cs3, rfl, hb3, hn3, hf3, hl3⟩ := hG3 (by omega)
            have gi : wr.cell? ⟨g3, j, none⟩ = some (cs3[j]'(by omega)) := by rw [hb3.cell, Array.getElem?_eq_getElem (by omega)]
            have gf := hb3.frozen j
            have j0 : (0 : Int) ≤ (j : Int) := by omega
            have j1 : (j : Int) < (kl : Int) := by omega
            have Hrel := hide (And.intro (hBj.zed hb3 hf3 hl3 j (.int .u8 122)) (And.intro (hG3.set hb3 j (.int .u8 122)) (hG4.set hb3 j (.int .u8 122))))
            have hwj := Hsm.out j (by have := Hnum.out; omega)
            clear hBj hG3 hG4 hb3 hf3
            go_wp2
            go_roundw
            case rel => exact ⟨j + 1, by omega, by simp, Hrel.out.1, Hrel.out.2.1, Hrel.out.2.2⟩
            case measure => simp [intOf]; omega
          · obtain rfl : j = kl := by omega
            have HBj := hide hBj
            have HG4j := hide hG4
            clear hBj hG3 hG4
            go_wp2
            go_loopw [68] (fun t68 wx => ∃ j : Nat, j ≤ vl ∧ t68 = .int .i64 (j : Int) ∧ Both w (.slice TA tn tc') tws s' T R base hd' ms' kv' vv' tv' wx ∧ Free w.heap.size hd' ms' wx A4 vl) (fun t68 _ => vl - (intOf t68).toNat)
            case atStart => exact ⟨0, Nat.zero_le _, rfl, HBj.out, HG4j.out⟩
            case round =>
              obtain ⟨m, hm, rfl, hBm, hG4⟩ := hrel
              by_cases hml : m < vl
              · obtain ⟨g4, cs4, rfl, hb4, hn4, hf4, hl4⟩ := hG4 (by omega)
                have gi : wr.cell? ⟨g4, m, none⟩ = some (cs4[m]'(by omega)) := by rw [hb4.cell, Array.getElem?_eq_getElem (by omega)]
                have gf := hb4.frozen m
                have j0 : (0 : Int) ≤ (m : Int) := by omega
                have j1 : (m : Int) < (vl : Int) := by omega
                have Hrel := hide (And.intro (hBm.zed hb4 hf4 hl4 m (.int .u8 122)) (hG4.set hb4 m (.int .u8 122)))
                have hwm := Hsm.out m (by have := Hnum.out; omega)
                clear hBm hG4 hb4 hf4
                go_wp2
                go_roundw
                case rel => exact ⟨m + 1, by omega, by simp, Hrel.out.1, Hrel.out.2⟩
                case measure => simp [intOf]; omega
              · obtain rfl : m = vl := by omega
                have HBm := hide hBm
                have hwi := Hw1.out
                clear hBm hG4
                go_wp2
                go_roundw
                case rel => exact ⟨i + 1, by omega, by simp, hd', ms', kv', vv', tv', by rw [Htake.out]; exact HBm.out⟩
                case measure => simp [intOf]; omega
    · obtain rfl : i = ln := by omega
      rw [show fs.take i = fs from List.take_of_length_le (by have := Hln.out; omega)] at hB
      have HBo := hide hB
      clear hB
      go_wp2
      go_ret3
      exact ⟨T, R, base, rfl, hd', ms, kv, vv, tv, HBo.out⟩

end Go.Proofs.Ytkbjbjkgohkkjaa
