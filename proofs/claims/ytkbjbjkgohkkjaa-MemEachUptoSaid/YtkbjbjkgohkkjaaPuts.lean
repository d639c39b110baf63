/-
  Pairs put one by one, in plain Lean: how many there are, what was counted; the towers change only what is counted. No program, no condition.
-/
import Derived.Test.YtkbjbjkgohkkjaaRPut
namespace Go.Proofs.Ytkbjbjkgohkkjaa
open Go.RowKit Go.Shelf

theorem row_cnt (ns : List Nd) (k : Key) (l : Nat) : ∀ (f p : Nat), (row ns k l f p).2 ≤ f
  | 0, _ => by simp [row]
  | f + 1, p => by
    unfold row
    have := row_cnt ns k l f (nxt ns l p + 1)
    split
    · split
      · simp only; omega
      · simp only; omega
    · simp only; omega
theorem srch_cnt (ns : List Nd) (k : Key) : ∀ (L p : Nat), (srch ns k L p).2 ≤ L * (ns.length + 1)
  | 0, _ => by simp [srch]
  | L + 1, p => by
    have h1 : (rowp ns k L p).2 ≤ ns.length + 1 - p := row_cnt ns k L _ p
    have h2 := srch_cnt ns k L (rowp ns k L p).1
    simp only [srch, Nat.add_mul]
    omega
theorem hi_bound {ns : List Nd} (ht : ∀ d ∈ ns, 1 ≤ d.t ∧ d.t ≤ 12) : hi ns ≤ 12 := tmax_bound _ _ (fun t h => by obtain ⟨d, hd, rfl⟩ := List.mem_map.1 h; exact (ht d hd).2)
theorem cntN_bound {ns : List Nd} (ht : ∀ d ∈ ns, 1 ≤ d.t ∧ d.t ≤ 12) (k : Key) : cntN ns k ≤ 12 * (ns.length + 1) :=
  Nat.le_trans (srch_cnt ns k (hi ns) 0) (Nat.mul_le_mul (hi_bound ht) (Nat.le_refl _))

/-- what one more pair does -/
def stepP (tw : List Int) (s : List Nd × Nat) (f : Pr) : List Nd × Nat := (putN s.1 f.1 f.2 (towN tw s.1.length), s.2 + cntN s.1 f.1)
/-- pairs put in: the nodes, and what was counted -/
def putsP (tw : List Int) (fs : List Pr) : List Nd × Nat := fs.foldl (stepP tw) ([], 0)
theorem putsP_nil (tw : List Int) : putsP tw [] = ([], 0) := rfl
theorem putsP_snoc (tw : List Int) (fs : List Pr) (f : Pr) : putsP tw (fs ++ [f]) = stepP tw (putsP tw fs) f := by simp [putsP, List.foldl_append]
theorem putsP_take {tw : List Int} {fs : List Pr} {i : Nat} (hi : i < fs.length) : putsP tw (fs.take (i + 1)) = stepP tw (putsP tw (fs.take i)) fs[i] := by
  rw [List.take_succ_eq_append_getElem hi, putsP_snoc]

theorem putN_len (ns : List Nd) (k v : Key) (t : Nat) : (putN ns k v t).length ≤ ns.length + 1 := by
  unfold putN
  split
  · rw [setN_len]; omega
  · rw [ins_len (fnd_le ns k)]; omega
theorem putN_size (ns : List Nd) (k v : Key) (t : Nat) : sizeN (putN ns k v t) ≤ sizeN ns + k.length + v.length := by
  unfold putN
  split
  · rename_i h
    have hl : fnd ns k < ns.length := by
      rcases Nat.lt_or_ge (fnd ns k) ns.length with h' | h'
      · exact h'
      · rw [List.getElem?_eq_none h'] at h; cases h
    have := sizeN_set ns (fnd ns k) v hl
    omega
  · have := sizeN_ins ns (fnd ns k) ⟨k, v, t⟩
    simp only at this
    omega
theorem putN_tall {ns : List Nd} (ht : ∀ d ∈ ns, 1 ≤ d.t ∧ d.t ≤ 12) {k v : Key} {t : Nat} (h : 1 ≤ t ∧ t ≤ 12) : ∀ d ∈ putN ns k v t, 1 ≤ d.t ∧ d.t ≤ 12 := by
  unfold putN
  split
  · intro d hd
    have : d.t ∈ (setN ns (fnd ns k) v).map Nd.t := List.mem_map.2 ⟨d, hd, rfl⟩
    rw [setN_t] at this
    obtain ⟨d0, h1, h2⟩ := List.mem_map.1 this
    rw [← h2]
    exact ht d0 h1
  · intro d hd
    simp only [ins, List.mem_append, List.mem_cons] at hd
    rcases hd with hd | rfl | hd
    · exact ht d (List.mem_of_mem_take hd)
    · exact h
    · exact ht d (List.mem_of_mem_drop hd)

theorem sizeP_append (a b : List Pr) : sizeP (a ++ b) = sizeP a + sizeP b := by simp [sizeP]
/-- how much there is, behind so many pairs -/
theorem puts_facts (tw : List Int) (fs : List Pr) : ∀ i, i ≤ fs.length → (putsP tw (fs.take i)).1.length ≤ i ∧ sizeN (putsP tw (fs.take i)).1 ≤ sizeP (fs.take i) ∧ (∀ d ∈ (putsP tw (fs.take i)).1, 1 ≤ d.t ∧ d.t ≤ 12) ∧ (putsP tw (fs.take i)).2 ≤ i * (12 * (fs.length + 1))
  | 0, _ => by simp [putsP, sizeN]
  | i + 1, h => by
    obtain ⟨h1, h2, h3, h4⟩ := puts_facts tw fs i (by omega)
    rw [putsP_take (by omega), sizeP_take (by omega)]
    have a1 := putN_len (putsP tw (fs.take i)).1 (fs[i]'(by omega)).1 (fs[i]'(by omega)).2 (towN tw (putsP tw (fs.take i)).1.length)
    have a2 := putN_size (putsP tw (fs.take i)).1 (fs[i]'(by omega)).1 (fs[i]'(by omega)).2 (towN tw (putsP tw (fs.take i)).1.length)
    have a4 := cntN_bound h3 (fs[i]'(by omega)).1
    refine ⟨by simp only [stepP]; omega, by simp only [stepP]; omega, by simp only [stepP]; exact putN_tall h3 (towN_bound _ _), ?_⟩
    simp only [stepP, Nat.add_mul]
    have : 12 * ((putsP tw (fs.take i)).1.length + 1) ≤ 12 * (fs.length + 1) := Nat.mul_le_mul (Nat.le_refl _) (by omega)
    omega

/-! ### the towers change nothing but how much is looked at -/
def kvN (ns : List Nd) : List Pr := ns.map fun d => (d.k, d.v)
theorem kv_k (ns : List Nd) : ns.map Nd.k = (kvN ns).map Prod.fst := by simp [kvN, Function.comp_def]
theorem fnd_k {a b : List Nd} (h : a.map Nd.k = b.map Nd.k) (k : Key) : fnd a k = fnd b k := by
  have e : ∀ ns : List Nd, fnd ns k = (ns.map Nd.k).findIdx fun x => !klt x k := fun ns => by
    induction ns with
    | nil => rfl
    | cons d r ih =>
      unfold fnd at ih ⊢
      rw [List.findIdx_cons, List.map_cons, List.findIdx_cons, ih]
  rw [e a, e b, h]
theorem kv_set (ns : List Nd) (i : Nat) (v : Key) : kvN (setN ns i v) = (kvN ns).modify i fun p => (p.1, v) := by
  apply List.ext_getElem?
  intro j
  simp only [kvN, setN, List.getElem?_map, List.getElem?_modify]
  cases ns[j]? with
  | none => rfl
  | some d =>
    by_cases h : i = j
    · simp [h]
    · simp [h]
theorem kv_ins (ns : List Nd) (i : Nat) (nd : Nd) : kvN (ins ns i nd) = (kvN ns).take i ++ ((nd.k, nd.v) :: (kvN ns).drop i) := ins_map _ _ _ _
theorem kv_put {a b : List Nd} (h : kvN a = kvN b) (k v : Key) (t t' : Nat) : kvN (putN a k v t) = kvN (putN b k v t') := by
  have hk : a.map Nd.k = b.map Nd.k := by rw [kv_k, kv_k, h]
  have hf := fnd_k hk k
  have he : ((a[fnd a k]?).map Nd.k) = ((b[fnd b k]?).map Nd.k) := by rw [hf, ← List.getElem?_map, ← List.getElem?_map, hk]
  unfold putN
  rw [he]
  split
  · rw [kv_set, kv_set, h, hf]
  · rw [kv_ins, kv_ins, h, hf]
theorem kv_puts (tw tw' : List Int) (fs : List Pr) : ∀ i, i ≤ fs.length → kvN (putsP tw (fs.take i)).1 = kvN (putsP tw' (fs.take i)).1
  | 0, _ => rfl
  | i + 1, h => by
    rw [putsP_take (by omega), putsP_take (by omega)]
    exact kv_put (kv_puts tw tw' fs i (by omega)) _ _ _ _
theorem kv_len (ns : List Nd) : (kvN ns).length = ns.length := by simp [kvN]
theorem kv_size (ns : List Nd) : sizeP (kvN ns) = sizeN ns := by simp [kvN, sizeP, sizeN, Function.comp_def]

/-! ### with all of height 1 a search for the last key looks at all -/
theorem low_puts (fs : List Pr) : ∀ i, i ≤ fs.length → ∀ d ∈ (putsP [] (fs.take i)).1, d.t = 1
  | 0, _ => by simp [putsP]
  | i + 1, h => by
    rw [putsP_take (by omega)]
    have ih := low_puts fs i (by omega)
    intro d hd
    simp only [stepP, putN] at hd
    split at hd
    · have : d.t ∈ (setN (putsP [] (fs.take i)).1 (fnd (putsP [] (fs.take i)).1 (fs[i]'(by omega)).1) (fs[i]'(by omega)).2).map Nd.t := List.mem_map.2 ⟨d, hd, rfl⟩
      rw [setN_t] at this
      obtain ⟨d0, h1, h2⟩ := List.mem_map.1 this
      rw [← h2]
      exact ih d0 h1
    · simp only [ins, List.mem_append, List.mem_cons] at hd
      rcases hd with hd | rfl | hd
      · exact ih d (List.mem_of_mem_take hd)
      · simp [towN]
      · exact ih d (List.mem_of_mem_drop hd)
theorem row_low {ns : List Nd} (ht : ∀ d ∈ ns, d.t = 1) (ho : Ordered ns) {m : Nat} (hm : ns.length = m + 1) (k : Key) (hk : (ns[m]'(by omega)).k = k) : ∀ (j p : Nat), p + j = m → (rowp ns k 0 p).2 = j + 1
  | 0, p, h => by
    have hn : nxt ns 0 p = p := nxt_zero (fun d hd => by rw [ht d hd]; exact Nat.le_refl _) (by omega)
    rw [rowp_eq ns k 0 p (by omega), dif_pos (by omega)]
    have e : p = m := by omega
    subst e
    have hk2 : klt (ns[nxt ns 0 p]'(by omega)).k k = false := by
      simp only [hn, hk]
      exact klt_irrefl k
    rw [hk2]
    simp
  | j + 1, p, h => by
    have hn : nxt ns 0 p = p := nxt_zero (fun d hd => by rw [ht d hd]; exact Nat.le_refl _) (by omega)
    have ih := row_low ht ho hm k hk j (p + 1) (by omega)
    rw [rowp_eq ns k 0 p (by omega), dif_pos (by omega)]
    have hk2 : klt (ns[nxt ns 0 p]'(by omega)).k k = true := by
      have h1 := ordered_lt ho (show p < m by omega) (show m < ns.length by omega)
      simp only [hn]
      simpa only [hk] using h1
    rw [hk2]
    simp only [if_true, hn, ih]
theorem cnt_last {ns : List Nd} (ht : ∀ d ∈ ns, d.t = 1) (ho : Ordered ns) {m : Nat} (hm : ns.length = m + 1) : cntN ns (ns[m]'(by omega)).k = ns.length := by
  have hh : hi ns = 1 := by
    have h1 : hi ns ≤ 1 := tmax_bound _ _ (fun t h => by obtain ⟨d, hd, rfl⟩ := List.mem_map.1 h; rw [ht d hd]; exact Nat.le_refl _)
    have h2 := le_hi (ns := ns) _ (List.getElem_mem (show m < ns.length by omega))
    rw [ht _ (List.getElem_mem (show m < ns.length by omega))] at h2
    omega
  unfold cntN
  rw [hh]
  simp only [srch]
  rw [row_low ht ho hm _ rfl m 0 (by omega), hm]

end Go.Proofs.Ytkbjbjkgohkkjaa
