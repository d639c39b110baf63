/-
  Bytes got from a string; lists of pairs of such in memory of the call's own, and what append does to them. No condition.
-/
import Derived.Test.YtkbjbjkgohkkjaaRSize
import Derived.Laws.IdiomStrings
namespace Go.Proofs.Ytkbjbjkgohkkjaa
open Go.RowKit Go.Shelf

/-- bytes in a block of the call's own that is not written any more -/
def Fro (w : World) (base : Nat) (v : Value) (f : List UInt8) : Prop :=
  ∃ b c cs r, v = .slice (some ⟨b, 0, none⟩) f.length c ∧ f.length ≤ c ∧ base ≤ b ∧ w.heap[b]? = some (.cells cs 5 r) ∧ ∀ (j : Nat) (hj : j < f.length), cs[j]? = some (b8 f[j])
section
variable {w w' : World} {base B : Nat} {v : Value} {f : List UInt8}
theorem Fro.of_heap (h : Fro w base v f) (hh : ∀ g cs r, base ≤ g → w.heap[g]? = some (.cells cs 5 r) → w'.heap[g]? = w.heap[g]?) : Fro w' base v f := by
  obtain ⟨b, c, cs, r, e, hc, hb, hp, hj⟩ := h
  exact ⟨b, c, cs, r, e, hc, hb, (hh b cs r hb hp).trans hp, hj⟩
theorem Fro.mono (h : Fro w base v f) {base' : Nat} (hb : base' ≤ base) : Fro w base' v f := by
  obtain ⟨b, c, cs, r, e, hc, hb', hp, hj⟩ := h
  exact ⟨b, c, cs, r, e, hc, by omega, hp, hj⟩
theorem Fro.below (h : Fro w base v f) (hb : Below B w w') (hB : w.heap.size ≤ B) : Fro w' base v f := h.of_heap fun g cs r _ e => hb.block g (by have := (Array.getElem?_eq_some_iff.1 e).1; omega)
theorem Fro.shape (h : Fro w base v f) : ∃ A m c, v = .slice A m c := by obtain ⟨b, c, cs, r, e, _⟩ := h; exact ⟨_, _, _, e⟩
theorem Fro.bs (h : Fro w base v f) (hr : f.length ≤ 140737488351232) : ∃ A L c, v = .slice A L c ∧ Bs w w.heap.size A L c f := by
  obtain ⟨b, c, cs, r, e, hc, hb, hp, hj⟩ := h
  refine ⟨_, _, c, e, ⟨by simp, hc, hr, fun _ => ⟨b, 0, rfl, (Array.getElem?_eq_some_iff.1 hp).1, fun j u hu => ?_⟩⟩⟩
  have hl : j < f.length := by
    rcases Nat.lt_or_ge j f.length with h' | h'
    · exact h'
    · rw [List.getElem?_eq_none (by simp; omega)] at hu; cases hu
  rw [List.getElem?_map, List.getElem?_eq_getElem hl] at hu
  rw [Nat.zero_add, cell_of_row w b j cs 5 r hp, hj j hl]
  exact hu
end
theorem str_fro (w : World) (ks : List UInt8) : ∃ v w', (convert 9 22 (.string ⟨ks.toArray⟩)).run Try.prog w = .ok v w' ∧ Fro w' w.heap.size v ks ∧ Below w.heap.size w w' := by
  have hr := run_bytes_of_string (P := Try.prog) w 9 22 5 ⟨ks.toArray⟩ Try.underlying9 Try.underlying22 Try.underlying5
  have hsz : (ByteArray.mk ks.toArray).size = ks.length := rfl
  rw [hsz] at hr
  refine ⟨_, _, hr, ⟨w.heap.size, grownCap w ks.length 0 5, bytesRow ⟨ks.toArray⟩ (grownCap w ks.length 0 5), _, rfl, grownCap_ge _ _ _ _, Nat.le_refl _, heap_alloc_new w.drew _, fun j hj => ?_⟩, (below_drew w).trans ((Below.refl _ w.drew).alloc (Nat.le_refl _) _)⟩
  rw [bytesRow_at _ _ j (by simpa using hj)]
  simp [b8]

/-- a list of pairs of such bytes, in a row of the call's own -/
def MineQ (w : World) (base : Nat) (v : Value) (fs : List Pr) : Prop :=
  ∃ hs : List (Hd × Hd), w.ownsRow base 24 2 v hs.length (hs.flatMap fun h => [sv h.1, sv h.2]) ∧ hs.length = fs.length ∧ ∀ (i : Nat) (h : Hd × Hd) (f : Pr), hs[i]? = some h → fs[i]? = some f → Fro w base (sv h.1) f.1 ∧ Fro w base (sv h.2) f.2

section
variable {w w' : World} {base B : Nat} {v : Value} {fs : List Pr}
theorem MineQ.nil (w : World) (base : Nat) : MineQ w base (.slice none 0 0) [] := ⟨[], ⟨rfl, .inl ⟨rfl, rfl⟩⟩, rfl, fun i h f e1 => by simp at e1⟩
theorem MineQ.of_heap (h : MineQ w base v fs) (hh : ∀ g cs t r, base ≤ g → w.heap[g]? = some (.cells cs t r) → (t = 24 ∨ t = 5) → w'.heap[g]? = w.heap[g]?) : MineQ w' base v fs := by
  obtain ⟨hs, ho, hl, hr⟩ := h
  have hrow : ∀ (u : Value) (ks : List UInt8), Fro w base u ks → Fro w' base u ks := fun u ks hm => hm.of_heap fun g cs r hb e => hh g cs 5 r hb e (.inr rfl)
  exact ⟨hs, of_heapG ho (fun g hg => by obtain ⟨cs, r, e⟩ := ownG ho hg; exact hh g cs 24 r (owns_ltG ho hg).1 e (.inl rfl)), hl, fun i h f e1 e2 => ⟨hrow _ _ (hr i h f e1 e2).1, hrow _ _ (hr i h f e1 e2).2⟩⟩
theorem MineQ.below (h : MineQ w base v fs) (hb : Below B w w') (hB : w.heap.size ≤ B) : MineQ w' base v fs := h.of_heap fun g cs t r _ e _ => hb.block g (by have := (Array.getElem?_eq_some_iff.1 e).1; omega)
theorem MineQ.alloc (h : MineQ w base v fs) (o : Obj) : MineQ (w.alloc o) base v fs := h.below ((Below.refl _ w).alloc (Nat.le_refl _) o) (Nat.le_refl _)
theorem MineQ.drewN (h : MineQ w base v fs) (n : Nat) : MineQ (w.drewN n) base v fs := h.of_heap fun _ _ _ _ _ _ _ => rfl
theorem MineQ.grown (h : MineQ w base v fs) {w1 : World} (hg : w.grownBy w1 v.ownBlock) (hb : B ≤ base) (hB : B ≤ w.heap.size) : Below B w w1 := by
  obtain ⟨hs, ho, _⟩ := h
  exact (Below.refl B w).grown hg hB fun j ej => by have := (owns_ltG ho ej).1; omega
theorem MineQ.shape (h : MineQ w base v fs) : ∃ A m c, v = .slice A m c := by
  obtain ⟨hs, ho, _⟩ := h
  rcases ho.2 with ⟨rfl, _⟩ | ⟨g, cap, cur, rfl, _⟩
  · exact ⟨_, _, _, rfl⟩
  · exact ⟨_, _, _, rfl⟩
theorem heads_at : ∀ (l : List (Hd × Hd)) (i : Nat) (hi : i < l.length), (l.flatMap fun h => [sv h.1, sv h.2])[i * 2]? = some (sv l[i].1) ∧ (l.flatMap fun h => [sv h.1, sv h.2])[i * 2 + 1]? = some (sv l[i].2) := by
  intro l
  induction l with
  | nil => intro i hi; simp at hi
  | cons a l ih =>
    intro i hi
    rcases i with _ | i
    · simp
    · have := ih i (by simpa using hi)
      rw [List.flatMap_cons, show (i + 1) * 2 = i * 2 + 2 by omega]
      simpa using this
/-- read -/
theorem MineQ.read (h : MineQ w base v fs) (hb : ∀ f ∈ fs, f.1.length ≤ 1000000 ∧ f.2.length ≤ 1000000) : ReadP w v fs := by
  obtain ⟨hs, ho, hl, hr⟩ := h
  rcases ho.2 with ⟨rfl, h0⟩ | ⟨g, cap, cur, rfl, _, _, _, _⟩
  · exact ⟨none, 0, by rw [show fs.length = 0 by omega], fun i hi => by omega⟩
  · refine ⟨some ⟨g, 0, none⟩, cap, by rw [hl], fun i hi => ?_⟩
    have hi' : i < hs.length := by omega
    have hc := World.ownsRow.cells ho (g := g) rfl
    have h1 := hc _ _ (heads_at hs i hi').1
    have h2 := hc _ _ (heads_at hs i hi').2
    rw [Addr.add_lit, Nat.zero_add] at h1 h2
    have hm := hr i _ _ (List.getElem?_eq_getElem hi') (List.getElem?_eq_getElem hi)
    have q := hb _ (List.getElem_mem hi)
    obtain ⟨K, kl, kc, e1, b1⟩ := hm.1.bs (by omega)
    obtain ⟨V, vl, vc, e2, b2⟩ := hm.2.bs (by omega)
    rw [e1] at h1
    rw [e2] at h2
    exact ⟨g, K, kl, kc, V, vl, vc, rfl, h1, h2, b1, b2⟩

theorem append_pairQ {P : Program} {t : TypeId} (ty : TypeId) (ht : P.underlying t = some (.slice 24)) (hinfo : (P.info? 24).map (fun i => (i.zero, i.size, i.bytes)) = some (some (.agg #[.slice none 0 0, .slice none 0 0]), 2, 48))
    (h : MineQ w base v fs) (hb : base ≤ w.heap.size) {h1 h2 : Hd} {f : Pr} (hf1 : Fro w base (sv h1) f.1) (hf2 : Fro w base (sv h2) f.2) {g : Nat} (hc0 : w.cell? ⟨g, 0, none⟩ = some (sv h1)) (hc1 : w.cell? ⟨g, 1, none⟩ = some (sv h2)) (hlen : fs.length ≤ 1000000) :
    ∃ v' w', (Builtin.append_ #[t, t] ty #[v, .slice (some ⟨g, 0, none⟩) 1 1]).run P w = .ok v' w' ∧ MineQ w' base v' (fs ++ [f]) ∧ w.grownBy w' v.ownBlock := by
  obtain ⟨i0, hi, hz0, hz1, hz2⟩ := info_parts hinfo
  obtain ⟨hs, ho, hl, hrows⟩ := h
  obtain ⟨v', w', hr, hown, hg, _, _⟩ := run_append_own_at (P := P) w base t ty 24 i0 (.agg #[.slice none 0 0, .slice none 0 0]) 2 48 ht hi hz0 hz1 hz2 rfl (by decide) v hs.length (hs.flatMap fun h => [sv h.1, sv h.2]) ho ⟨g, 0, none⟩ 1 1 [sv h1, sv h2] rfl (by
      intro j u hj
      match j, hj with
      | 0, hj => simp at hj; subst hj; exact hc0
      | 1, hj => simp at hj; subst hj; exact hc1) (by intro u hu; simp at hu; rcases hu with rfl | rfl <;> rfl) (by unfold maxLen; omega) (by omega) hb
  have hkeep : ∀ (u : Value) (ks : List UInt8), Fro w base u ks → Fro w' base u ks := fun u ks hm => hm.of_heap fun g cs r _ e => hg.block g (Array.getElem?_eq_some_iff.1 e).1 (fun e' => by
    obtain ⟨cs', r', h2⟩ := ownG ho e'.symm
    rw [e] at h2
    injection h2 with h2
    injection h2 with _ h3 _
    cases h3)
  refine ⟨v', w', hr, ⟨hs ++ [(h1, h2)], ?_, by simp [hl], fun i h f' e1 e2 => ?_⟩, hg⟩
  · rw [List.length_append, List.length_singleton, List.flatMap_append]
    simpa using hown
  · rcases Nat.lt_or_ge i hs.length with hlt | hge
    · rw [List.getElem?_append_left hlt] at e1
      rw [List.getElem?_append_left (by omega)] at e2
      have hm := hrows i h f' e1 e2
      exact ⟨hkeep _ _ hm.1, hkeep _ _ hm.2⟩
    · have hi0 : i = hs.length := by
        rcases Nat.eq_or_lt_of_le hge with h' | h'
        · exact h'.symm
        · rw [List.getElem?_eq_none (by simp; omega)] at e1; cases e1
      subst hi0
      rw [List.getElem?_append_right (Nat.le_refl _)] at e1
      rw [List.getElem?_append_right (by omega)] at e2
      simp at e1
      rw [hl] at e2
      simp at e2
      subst e1 e2
      exact ⟨hkeep _ _ hf1, hkeep _ _ hf2⟩
end

end Go.Proofs.Ytkbjbjkgohkkjaa
