/-
  An insertion into the skip list in memory: if just the towers' cells ahead of the new node have turned, the list lies there with the new node. No condition but what the law asks.
-/
import Derived.Test.YtkbjbjkgohkkjaaPair
namespace Go.Proofs.Ytkbjbjkgohkkjaa
open Go.RowKit Go.Shelf

def insM (ms : List Nw) (i : Nat) (nw : Nw) : List Nw := ms.take i ++ nw :: ms.drop i
section
variable {ms : List Nw} {i : Nat} {nw : Nw}
theorem insM_before {j : Nat} (hi : i ≤ ms.length) (hj : j < i) : (insM ms i nw)[j]? = ms[j]? := by
  simp only [insM]
  rw [List.getElem?_append_left (by simp; omega), List.getElem?_take_of_lt hj]
theorem insM_at (hi : i ≤ ms.length) : (insM ms i nw)[i]? = some nw := by
  simp only [insM]
  rw [List.getElem?_append_right (by simp; omega)]
  simp [Nat.min_eq_left hi]
theorem insM_behind {j : Nat} (hi : i ≤ ms.length) (hj : i ≤ j) : (insM ms i nw)[j + 1]? = ms[j]? := by
  simp only [insM]
  rw [List.getElem?_append_right (by simp; omega)]
  simp only [List.length_take, Nat.min_eq_left hi]
  rw [show j + 1 - i = (j - i) + 1 by omega, List.getElem?_cons_succ, List.getElem?_drop]
  congr 1
  omega
theorem insM_len (hi : i ≤ ms.length) : (insM ms i nw).length = ms.length + 1 := by simp [insM]; omega
theorem pN_before {j : Nat} (hi : i ≤ ms.length) (hj : j < i) : pN (insM ms i nw) j = pN ms j := by unfold pN; rw [insM_before hi hj]
theorem pN_at (hi : i ≤ ms.length) : pN (insM ms i nw) i = .pointer (some ⟨nw.b, 0, none⟩) := by unfold pN; rw [insM_at hi]; rfl
theorem pN_behind {j : Nat} (hi : i ≤ ms.length) (hj : i ≤ j) : pN (insM ms i nw) (j + 1) = pN ms j := by unfold pN; rw [insM_behind hi hj]
theorem place_near {hd : Nw} {q : Nat} (hi : i ≤ ms.length) (hq : q ≤ i) : (hd :: insM ms i nw)[q]? = (hd :: ms)[q]? := by
  rcases q with _ | p
  · rfl
  · rw [List.getElem?_cons_succ, List.getElem?_cons_succ, insM_before hi (by omega)]
theorem place_new {hd : Nw} (hi : i ≤ ms.length) : (hd :: insM ms i nw)[i + 1]? = some nw := by rw [List.getElem?_cons_succ, insM_at hi]
theorem place_far {hd : Nw} {q : Nat} (hi : i ≤ ms.length) (hq : i < q) : (hd :: insM ms i nw)[q + 1]? = (hd :: ms)[q]? := by
  obtain ⟨p, rfl⟩ : ∃ p, q = p + 1 := ⟨q - 1, by omega⟩
  rw [List.getElem?_cons_succ, List.getElem?_cons_succ, insM_behind hi (by omega)]
end
section
variable {ns : List Nd} {i : Nat} {nd : Nd}
theorem tl_near {q : Nat} (hi : i ≤ ns.length) (hq : q ≤ i) : tl (ins ns i nd) q = tl ns q := by
  rcases q with _ | p
  · rfl
  · rw [tl_succ (by rw [ins_len hi]; omega), tl_succ (by omega), ins_before hi (by omega)]
theorem tl_new (hi : i ≤ ns.length) : tl (ins ns i nd) (i + 1) = nd.t := by rw [tl_succ (by rw [ins_len hi]; omega), ins_at hi]
theorem tl_far {q : Nat} (hi : i ≤ ns.length) (hq : i < q) (hl : q ≤ ns.length) : tl (ins ns i nd) (q + 1) = tl ns q := by
  obtain ⟨p, rfl⟩ : ∃ p, q = p + 1 := ⟨q - 1, by omega⟩
  rw [tl_succ (by rw [ins_len hi]; omega), tl_succ (by omega), ins_behind hi (by omega) (by omega)]
end

/-- a tower of which the first j levels ahead of the new node have turned -/
def updV (ns : List Nd) (ms : List Nw) (qs : Nat → Nat) (nb : Nat) (j q : Nat) : List Value :=
  (List.range (tl ns q)).map fun l => if l < j ∧ qs l = q then .pointer (some ⟨nb, 0, none⟩) else pN ms (nxt ns l q)
/-- the new node's tower, its first j levels -/
def newV (ns : List Nd) (ms : List Nw) (qs : Nat → Nat) (t j : Nat) : List Value := (List.range t).map fun l => if l < j then pN ms (nxt ns l (qs l)) else .pointer none

theorem tall_le {ns : List Nd} (ht : ∀ d ∈ ns, 1 ≤ d.t ∧ d.t ≤ 12) (q : Nat) : tl ns q ≤ 12 := by
  rcases q with _ | p
  · exact Nat.le_refl _
  · rcases Nat.lt_or_ge p ns.length with h | h
    · rw [tl_succ h]; exact (ht _ (List.getElem_mem h)).2
    · simp [tl, List.getD_eq_getElem?_getD, List.getElem?_eq_none h]
theorem place_ok {ns : List Nd} {q l : Nat} (hq : q ≤ ns.length) (hl : l < tl ns q) : q = 0 ∨ ∃ h : q - 1 < ns.length, l < ns[q - 1].t := by
  rcases q with _ | p
  · exact .inl rfl
  · rw [tl_succ (by omega)] at hl
    exact .inr ⟨by omega, by simpa using hl⟩

section
variable {w w' : World} {base : Nat} {ns : List Nd} {hd : Nw} {ms : List Nw}
theorem SL.insert (h : SL w base ns hd ms) {i : Nat} {nd : Nd} (hi : i = fnd ns nd.k) (hne : (h : i < ns.length) → ns[i].k ≠ nd.k) (ht : 1 ≤ nd.t ∧ nd.t ≤ 12) (hsh : nd.k.length ≤ 1000000 ∧ nd.v.length ≤ 1000000)
    {qs : Nat → Nat} (hqs : ∀ l, l < 12 → Lst ns nd.k l (qs l)) {nw : Nw}
    (hnode : ∀ n ∈ hd :: ms, w'.heap[n.b]? = w.heap[n.b]?) (hrow : ∀ g, (∃ n ∈ hd :: ms, n.kv.ownBlock = some g ∨ n.vv.ownBlock = some g) → w'.heap[g]? = w.heap[g]?)
    (harr : ∀ (q : Nat) (n : Nw), (hd :: ms)[q]? = some n → Blk w' n.x 28 (updV ns ms qs nw.b nd.t q).toArray)
    (hnew : Blk w' nw.b 83 #[nw.kv, nw.vv, .slice (some ⟨nw.x, 0, none⟩) nd.t nd.t]) (hnx : Blk w' nw.x 28 (newV ns ms qs nd.t nd.t).toArray)
    (hkv : Mine 5 w' base nw.kv nd.k) (hvv : Mine 5 w' base nw.vv nd.v) (hfb : ∀ n ∈ hd :: ms, n.b ≠ nw.b) (hfx : ∀ n ∈ hd :: ms, n.x ≠ nw.x) (hlow : base ≤ nw.b ∧ base ≤ nw.x) :
    SL w' base (ins ns i nd) hd (insM ms i nw) := by
  have hl : i ≤ ns.length := by rw [hi]; exact fnd_le _ _
  have hl' : i ≤ ms.length := by rw [h.len]; exact hl
  have hmem : ∀ n, n ∈ hd :: insM ms i nw → n ∈ hd :: ms ∨ n = nw := fun n hn => by
    simp only [insM, List.mem_cons, List.mem_append] at hn
    rcases hn with rfl | hn | rfl | hn
    · exact .inl (List.mem_cons_self ..)
    · exact .inl (List.mem_cons_of_mem _ (List.mem_of_mem_take hn))
    · exact .inr rfl
    · exact .inl (List.mem_cons_of_mem _ (List.mem_of_mem_drop hn))
  have hlenp : ∀ (q : Nat) (n : Nw), (hd :: ms)[q]? = some n → q ≤ ns.length := fun q n e => by
    have := (List.getElem?_eq_some_iff.1 e).1
    rw [List.length_cons, h.len] at this
    omega
  -- the towers
  have hvals : ∀ (q : Nat) (n : Nw), (hd :: ms)[q]? = some n → ∀ l, l < tl ns q → (if l < nd.t ∧ qs l = q then (.pointer (some ⟨nw.b, 0, none⟩) : Value) else pN ms (nxt ns l q)) =
      if q ≤ i then pN (insM ms i nw) (nxt (ins ns i nd) l q) else pN (insM ms i nw) (nxt (ins ns i nd) l (q + 1)) := fun q n e l hlt => by
    have hq := hlenp q n e
    have hl12 : l < 12 := Nat.lt_of_lt_of_le hlt (tall_le h.tall q)
    have hL := hqs l hl12
    by_cases hqi : q ≤ i
    · rw [if_pos hqi]
      rcases Nat.lt_or_ge (nxt ns l q) i with hm | hm
      · rw [nxt_ins_near hl hqi hm, pN_before hl' hm, if_neg]
        rintro ⟨_, e2⟩
        have := hL.step.1
        rw [e2] at this
        omega
      · have e3 : q = qs l := hL.unique (by omega) (place_ok hq hlt) (by omega)
        by_cases hlt2 : l < nd.t
        · rw [if_pos ⟨hlt2, e3.symm⟩, nxt_ins_new hl hqi hm hlt2, pN_at hl']
        · rw [if_neg (fun h => hlt2 h.1), nxt_ins_past hl hqi hm (by omega), pN_behind hl' hm]
    · rw [if_neg hqi, nxt_ins_far hl (by omega) hq, pN_behind hl' (by have := nxt_ge ns l q; omega), if_neg]
      rintro ⟨_, e2⟩
      have := hL.le
      omega
  refine ⟨by rw [insM_len hl', ins_len hl, h.len], fun q n e => ?_, fun q n e => ?_, fun j n d e1 e2 => ?_, fun j n d e1 e2 => ?_, h.hkv, h.hvv, ?_, ?_, fun n hn => ?_, fun d hd' => ?_, ins_ordered h.ord hi hne, fun d hd' => ?_⟩
  · rcases Nat.lt_trichotomy q (i + 1) with hq | hq | hq
    · rw [place_near hl' (by omega)] at e
      rw [tl_near hl (by omega)]
      exact (hnode n (List.mem_of_getElem? e)).trans (h.node q n e)
    · subst hq
      rw [place_new hl'] at e
      cases e
      rw [tl_new hl]
      exact hnew
    · obtain ⟨p, rfl⟩ : ∃ p, q = p + 1 := ⟨q - 1, by omega⟩
      rw [place_far hl' (by omega)] at e
      rw [tl_far hl (by omega) (hlenp p n e)]
      exact (hnode n (List.mem_of_getElem? e)).trans (h.node p n e)
  · rcases Nat.lt_trichotomy q (i + 1) with hq | hq | hq
    · rw [place_near hl' (by omega)] at e
      have := harr q n e
      rw [show arrV (ins ns i nd) (insM ms i nw) q = updV ns ms qs nw.b nd.t q from ?_]
      · exact this
      · unfold arrV updV
        rw [tl_near hl (by omega)]
        refine List.map_congr_left fun l hl2 => ?_
        have := hvals q n e l (List.mem_range.1 hl2)
        rw [if_pos (show q ≤ i by omega)] at this
        exact this.symm
    · subst hq
      rw [place_new hl'] at e
      cases e
      rw [show arrV (ins ns i nd) (insM ms i nw) (i + 1) = newV ns ms qs nd.t nd.t from ?_]
      · exact hnx
      · unfold arrV newV
        rw [tl_new hl]
        refine List.map_congr_left fun l hl2 => ?_
        have hlt := List.mem_range.1 hl2
        have hL := hqs l (by omega)
        rw [if_pos hlt, nxt_ins_far hl (Nat.le_refl _) hl, pN_behind hl' (nxt_ge _ _ _), hL.step.2, ← hi]
    · obtain ⟨p, rfl⟩ : ∃ p, q = p + 1 := ⟨q - 1, by omega⟩
      rw [place_far hl' (by omega)] at e
      have := harr p n e
      rw [show arrV (ins ns i nd) (insM ms i nw) (p + 1) = updV ns ms qs nw.b nd.t p from ?_]
      · exact this
      · unfold arrV updV
        rw [tl_far hl (by omega) (hlenp p n e)]
        refine List.map_congr_left fun l hl2 => ?_
        have := hvals p n e l (List.mem_range.1 hl2)
        rw [if_neg (show ¬ p ≤ i by omega)] at this
        exact this.symm
  · rcases Nat.lt_trichotomy j i with hj | hj | hj
    · rw [insM_before hl' hj] at e1
      rw [List.getElem?_eq_getElem (by rw [ins_len hl]; omega), ins_before hl hj] at e2
      exact (h.kv j n d e1 (by rw [List.getElem?_eq_getElem (by omega)]; exact e2)).of_heap fun g hg => hrow g ⟨n, List.mem_cons_of_mem _ (List.mem_of_getElem? e1), .inl hg⟩
    · subst hj
      rw [insM_at hl'] at e1
      rw [List.getElem?_eq_getElem (by rw [ins_len hl]; omega), ins_at hl] at e2
      cases e1; cases e2
      exact hkv
    · obtain ⟨p, rfl⟩ : ∃ p, j = p + 1 := ⟨j - 1, by omega⟩
      rw [insM_behind hl' (by omega)] at e1
      have hp : p < ns.length := by rw [← h.len]; exact (List.getElem?_eq_some_iff.1 e1).1
      rw [List.getElem?_eq_getElem (by rw [ins_len hl]; omega), ins_behind hl (by omega) hp] at e2
      exact (h.kv p n d e1 (by rw [List.getElem?_eq_getElem hp]; exact e2)).of_heap fun g hg => hrow g ⟨n, List.mem_cons_of_mem _ (List.mem_of_getElem? e1), .inl hg⟩
  · rcases Nat.lt_trichotomy j i with hj | hj | hj
    · rw [insM_before hl' hj] at e1
      rw [List.getElem?_eq_getElem (by rw [ins_len hl]; omega), ins_before hl hj] at e2
      exact (h.vv j n d e1 (by rw [List.getElem?_eq_getElem (by omega)]; exact e2)).of_heap fun g hg => hrow g ⟨n, List.mem_cons_of_mem _ (List.mem_of_getElem? e1), .inr hg⟩
    · subst hj
      rw [insM_at hl'] at e1
      rw [List.getElem?_eq_getElem (by rw [ins_len hl]; omega), ins_at hl] at e2
      cases e1; cases e2
      exact hvv
    · obtain ⟨p, rfl⟩ : ∃ p, j = p + 1 := ⟨j - 1, by omega⟩
      rw [insM_behind hl' (by omega)] at e1
      have hp : p < ns.length := by rw [← h.len]; exact (List.getElem?_eq_some_iff.1 e1).1
      rw [List.getElem?_eq_getElem (by rw [ins_len hl]; omega), ins_behind hl (by omega) hp] at e2
      exact (h.vv p n d e1 (by rw [List.getElem?_eq_getElem hp]; exact e2)).of_heap fun g hg => hrow g ⟨n, List.mem_cons_of_mem _ (List.mem_of_getElem? e1), .inr hg⟩
  · have hp : (hd :: insM ms i nw).map Nw.b = (hd :: ms.take i).map Nw.b ++ nw.b :: (ms.drop i).map Nw.b := by simp [insM]
    have hp0 : (hd :: ms).map Nw.b = (hd :: ms.take i).map Nw.b ++ (ms.drop i).map Nw.b := by rw [← List.map_append, List.cons_append, List.take_append_drop]
    rw [hp]
    have h0 := h.nb
    rw [hp0] at h0
    refine List.perm_middle.nodup_iff.2 (List.nodup_cons.2 ⟨fun hm => ?_, h0⟩)
    rw [← hp0] at hm
    obtain ⟨n, hn, e⟩ := List.mem_map.1 hm
    exact hfb n hn e
  · have hp : (hd :: insM ms i nw).map Nw.x = (hd :: ms.take i).map Nw.x ++ nw.x :: (ms.drop i).map Nw.x := by simp [insM]
    have hp0 : (hd :: ms).map Nw.x = (hd :: ms.take i).map Nw.x ++ (ms.drop i).map Nw.x := by rw [← List.map_append, List.cons_append, List.take_append_drop]
    rw [hp]
    have h0 := h.nx
    rw [hp0] at h0
    refine List.perm_middle.nodup_iff.2 (List.nodup_cons.2 ⟨fun hm => ?_, h0⟩)
    rw [← hp0] at hm
    obtain ⟨n, hn, e⟩ := List.mem_map.1 hm
    exact hfx n hn e
  · rcases hmem n hn with h' | rfl
    · exact h.low n h'
    · exact hlow
  · simp only [ins, List.mem_append, List.mem_cons] at hd'
    rcases hd' with h' | rfl | h'
    · exact h.tall d (List.mem_of_mem_take h')
    · exact ht
    · exact h.tall d (List.mem_of_mem_drop h')
  · simp only [ins, List.mem_append, List.mem_cons] at hd'
    rcases hd' with h' | rfl | h'
    · exact h.short d (List.mem_of_mem_take h')
    · exact hsh
    · exact h.short d (List.mem_of_mem_drop h')
end

end Go.Proofs.Ytkbjbjkgohkkjaa
