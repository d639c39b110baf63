/-
  A skip list in plain Lean: nodes in order with their towers, what a search counts and where it ends, what an insertion turns. No program, no condition.
-/
import Derived.Test.YtkbjbjkgohkkjaaOrd
namespace Go.Proofs.Ytkbjbjkgohkkjaa

structure Nd where
  k : Key
  v : Key
  t : Nat

/-- the place of the first key that is not ahead of k -/
def fnd (ns : List Nd) (k : Key) : Nat := ns.findIdx fun n => !klt n.k k
/-- the first node from place p on that reaches level l -/
def nxt (ns : List Nd) (l p : Nat) : Nat := p + (ns.drop p).findIdx fun n => decide (l < n.t)
def Ordered (ns : List Nd) : Prop := ns.Pairwise fun a b => klt a.k b.k = true

section
variable {ns : List Nd} {k : Key} {l p m i : Nat}
theorem fnd_le (ns : List Nd) (k : Key) : fnd ns k ≤ ns.length := List.findIdx_le_length
theorem fnd_before (h : i < fnd ns k) : klt (ns[i]'(Nat.lt_of_lt_of_le h (fnd_le ns k))).k k = true := by
  have := List.not_of_lt_findIdx h
  simpa using this
theorem fnd_at (h : fnd ns k < ns.length) : klt ns[fnd ns k].k k = false := by
  have := List.findIdx_getElem (w := h)
  simp only [Bool.not_eq_true'] at this
  exact this
theorem ordered_lt (ho : Ordered ns) {j : Nat} (hij : i < j) (hj : j < ns.length) : klt (ns[i]'(by omega)).k ns[j].k = true := List.pairwise_iff_getElem.1 ho i j (by omega) hj hij
theorem fnd_from (ho : Ordered ns) (h : fnd ns k ≤ i) (hi : i < ns.length) : klt ns[i].k k = false := by
  rcases Nat.eq_or_lt_of_le h with e | e
  · subst e; exact fnd_at hi
  · have h1 := ordered_lt ho e hi
    have h2 := fnd_at (ns := ns) (k := k) (by omega)
    cases h3 : klt ns[i].k k with
    | false => rfl
    | true => rw [klt_trans h1 h3] at h2; cases h2
theorem fnd_unique (hm : m ≤ ns.length) (h1 : ∀ i (h : i < m), klt (ns[i]'(by omega)).k k = true) (h2 : (h : m < ns.length) → klt ns[m].k k = false) : fnd ns k = m := by
  have hle := fnd_le ns k
  rcases Nat.lt_trichotomy (fnd ns k) m with h | h | h
  · have e1 := h1 _ h
    have e2 := fnd_at (ns := ns) (k := k) (by omega)
    rw [e1] at e2; cases e2
  · exact h
  · have e1 := fnd_before h
    have e2 := h2 (by omega)
    rw [e1] at e2; cases e2

theorem nxt_ge (ns : List Nd) (l p : Nat) : p ≤ nxt ns l p := Nat.le_add_right _ _
theorem nxt_le (hp : p ≤ ns.length) : nxt ns l p ≤ ns.length := by
  have : (ns.drop p).findIdx (fun n => decide (l < n.t)) ≤ (ns.drop p).length := List.findIdx_le_length
  rw [List.length_drop] at this
  unfold nxt; omega
theorem nxt_at (h : nxt ns l p < ns.length) : l < ns[nxt ns l p].t := by
  have h' : (ns.drop p).findIdx (fun n => decide (l < n.t)) < (ns.drop p).length := by rw [List.length_drop]; unfold nxt at h; omega
  have := List.findIdx_getElem (w := h')
  simpa [nxt] using this
theorem nxt_before (h1 : p ≤ i) (h2 : i < nxt ns l p) (hi : i < ns.length) : ns[i].t ≤ l := by
  have h' : i - p < (ns.drop p).findIdx (fun n => decide (l < n.t)) := by unfold nxt at h2; omega
  have := List.not_of_lt_findIdx h'
  simp only [decide_eq_false_iff_not, Nat.not_lt, List.getElem_drop, Bool.not_eq_true] at this
  simpa only [show p + (i - p) = i by omega] using this
theorem nxt_unique (h1 : p ≤ m) (hm : m ≤ ns.length) (h2 : ∀ i (_ : p ≤ i) (h : i < m), (ns[i]'(by omega)).t ≤ l) (h3 : (h : m < ns.length) → l < ns[m].t) : nxt ns l p = m := by
  have hle := nxt_le (ns := ns) (l := l) (p := p) (by omega)
  have hge := nxt_ge ns l p
  rcases Nat.lt_trichotomy (nxt ns l p) m with h | h | h
  · have e1 := h2 _ hge h
    have e2 := nxt_at (ns := ns) (l := l) (p := p) (by omega)
    omega
  · exact h
  · have e1 := nxt_before h1 h (by omega)
    have e2 := h3 (by omega)
    omega
end

/-- along one level: where it ends, how often it looked -/
def row (ns : List Nd) (k : Key) (l : Nat) : Nat → Nat → Nat × Nat
  | 0, p => (p, 0)
  | f + 1, p => if h : nxt ns l p < ns.length then (if klt ns[nxt ns l p].k k then ((row ns k l f (nxt ns l p + 1)).1, (row ns k l f (nxt ns l p + 1)).2 + 1) else (p, 1)) else (p, 0)
def rowp (ns : List Nd) (k : Key) (l p : Nat) : Nat × Nat := row ns k l (ns.length + 1 - p) p
theorem row_fuel (ns : List Nd) (k : Key) (l : Nat) : ∀ (f f' p : Nat), p ≤ ns.length → ns.length + 1 - p ≤ f → ns.length + 1 - p ≤ f' → row ns k l f p = row ns k l f' p
  | 0, _, p, hp, h, _ => by omega
  | f + 1, 0, p, hp, _, h => by omega
  | f + 1, f' + 1, p, hp, h, h' => by
    unfold row
    have hge := nxt_ge ns l p
    by_cases hn : nxt ns l p < ns.length
    · rw [dif_pos hn, dif_pos hn, row_fuel ns k l f f' (nxt ns l p + 1) (by omega) (by omega) (by omega)]
    · rw [dif_neg hn, dif_neg hn]
theorem rowp_eq (ns : List Nd) (k : Key) (l p : Nat) (hp : p ≤ ns.length) :
    rowp ns k l p = if h : nxt ns l p < ns.length then (if klt ns[nxt ns l p].k k then ((rowp ns k l (nxt ns l p + 1)).1, (rowp ns k l (nxt ns l p + 1)).2 + 1) else (p, 1)) else (p, 0) := by
  have hge := nxt_ge ns l p
  conv => lhs; unfold rowp; rw [show ns.length + 1 - p = (ns.length - p) + 1 by omega, row]
  by_cases hn : nxt ns l p < ns.length
  · rw [dif_pos hn, dif_pos hn, row_fuel ns k l (ns.length - p) (ns.length + 1 - (nxt ns l p + 1)) _ (by omega) (by omega) (by omega)]
    rfl
  · rw [dif_neg hn, dif_neg hn]

/-- level by level down, L levels left: where it ends, how often it looked -/
def srch (ns : List Nd) (k : Key) : Nat → Nat → Nat × Nat
  | 0, p => (p, 0)
  | l + 1, p => ((srch ns k l (rowp ns k l p).1).1, (rowp ns k l p).2 + (srch ns k l (rowp ns k l p).1).2)

/-- q is the last place ahead of k that reaches level l (0: the head) -/
structure Lst (ns : List Nd) (k : Key) (l q : Nat) : Prop where
  le : q ≤ fnd ns k
  ok : q = 0 ∨ ∃ h : q - 1 < ns.length, l < ns[q - 1].t
  no : ∀ i (_ : q ≤ i) (h : i < fnd ns k), (ns[i]'(Nat.lt_of_lt_of_le h (fnd_le ns k))).t ≤ l

theorem rowp_lst {ns : List Nd} (ho : Ordered ns) (k : Key) (l : Nat) : ∀ (f p : Nat), ns.length - p < f → p ≤ fnd ns k → (p = 0 ∨ ∃ h : p - 1 < ns.length, l < ns[p - 1].t) → Lst ns k l (rowp ns k l p).1
  | 0, _, h, _, _ => by omega
  | f + 1, p, h, hp, hok => by
    have hl := fnd_le ns k
    have hge := nxt_ge ns l p
    rw [rowp_eq ns k l p (by omega)]
    by_cases hn : nxt ns l p < ns.length
    · rw [dif_pos hn]
      have hat := nxt_at hn
      by_cases hk : klt ns[nxt ns l p].k k = true
      · rw [if_pos hk]
        have hlt : nxt ns l p < fnd ns k := by
          rcases Nat.lt_or_ge (nxt ns l p) (fnd ns k) with h' | h'
          · exact h'
          · rw [fnd_from ho h' hn] at hk; cases hk
        exact rowp_lst ho k l f (nxt ns l p + 1) (by omega) (by omega) (.inr ⟨by simpa using hn, by simpa using hat⟩)
      · rw [if_neg hk]
        show Lst ns k l p
        have hge2 : fnd ns k ≤ nxt ns l p := by
          rcases Nat.lt_or_ge (nxt ns l p) (fnd ns k) with h' | h'
          · exact absurd (fnd_before h') hk
          · exact h'
        exact ⟨hp, hok, fun i h1 h2 => nxt_before h1 (by omega) (by omega)⟩
    · rw [dif_neg hn]
      show Lst ns k l p
      have hle := nxt_le (ns := ns) (l := l) (p := p) (by omega)
      exact ⟨hp, hok, fun i h1 h2 => nxt_before h1 (by omega) (by omega)⟩
theorem Lst.down {ns : List Nd} {k : Key} {l q : Nat} (h : Lst ns k l q) {l' : Nat} (hl : l' ≤ l) : q = 0 ∨ ∃ h : q - 1 < ns.length, l' < ns[q - 1].t := by
  rcases h.ok with h0 | ⟨h1, h2⟩
  · exact .inl h0
  · exact .inr ⟨h1, by omega⟩
/-- on the lowest level it ends just ahead of the key's place -/
theorem Lst.zero {ns : List Nd} {k : Key} {q : Nat} (h : Lst ns k 0 q) (ht : ∀ n ∈ ns, 1 ≤ n.t) : q = fnd ns k := by
  rcases Nat.eq_or_lt_of_le h.le with e | e
  · exact e
  · have h1 := h.no q (Nat.le_refl _) e
    have h2 := ht _ (List.getElem_mem (Nat.lt_of_lt_of_le e (fnd_le ns k)))
    omega
/-- behind it, the next of the level lies at the key's place or behind -/
theorem Lst.step {ns : List Nd} {k : Key} {l q : Nat} (h : Lst ns k l q) : fnd ns k ≤ nxt ns l q ∧ nxt ns l q = nxt ns l (fnd ns k) := by
  have hl := fnd_le ns k
  have hle := nxt_le (ns := ns) (l := l) (p := fnd ns k) hl
  have hge := nxt_ge ns l (fnd ns k)
  have e : nxt ns l q = nxt ns l (fnd ns k) := nxt_unique (by have := h.le; omega) hle (fun i h1 h2 => by
    rcases Nat.lt_or_ge i (fnd ns k) with h' | h'
    · exact h.no i h1 h'
    · exact nxt_before h' h2 (by omega)) (fun h' => nxt_at h')
  exact ⟨by omega, e⟩
theorem Lst.high {ns : List Nd} (k : Key) {l : Nat} (h : ∀ n ∈ ns, n.t ≤ l) : Lst ns k l 0 :=
  ⟨Nat.zero_le _, .inl rfl, fun i _ h' => h _ (List.getElem_mem _)⟩
/-- if a place that reaches the level has a next at the key's place or behind, it is the last one -/
theorem Lst.unique {ns : List Nd} {k : Key} {l q q' : Nat} (h : Lst ns k l q) (hq : q' ≤ fnd ns k) (hok : q' = 0 ∨ ∃ h : q' - 1 < ns.length, l < ns[q' - 1].t) (hn : fnd ns k ≤ Go.Proofs.Ytkbjbjkgohkkjaa.nxt ns l q') : q' = q := by
  have hl := fnd_le ns k
  rcases Nat.lt_trichotomy q' q with h' | h' | h'
  · rcases h.ok with h0 | ⟨h1, h2⟩
    · omega
    · have := nxt_before (ns := ns) (l := l) (p := q') (i := q - 1) (by omega) (by have := h.le; omega) h1
      omega
  · exact h'
  · rcases hok with h0 | ⟨h1, h2⟩
    · omega
    · have := h.no (q' - 1) (by omega) (by omega)
      omega

/-! ### an insertion -/
def ins (ns : List Nd) (i : Nat) (nd : Nd) : List Nd := ns.take i ++ nd :: ns.drop i
section
variable {ns : List Nd} {i : Nat} {nd : Nd}
theorem ins_len (hi : i ≤ ns.length) : (ins ns i nd).length = ns.length + 1 := by simp [ins]; omega
theorem ins_before {j : Nat} (hi : i ≤ ns.length) (hj : j < i) : (ins ns i nd)[j]'(by rw [ins_len hi]; omega) = ns[j] := by
  simp only [ins]
  rw [List.getElem_append_left (by simp; omega), List.getElem_take]
theorem ins_at (hi : i ≤ ns.length) : (ins ns i nd)[i]'(by rw [ins_len hi]; omega) = nd := by
  simp only [ins]
  rw [List.getElem_append_right (by simp; omega)]
  simp [Nat.min_eq_left hi]
theorem ins_behind {j : Nat} (hi : i ≤ ns.length) (hj : i ≤ j) (hl : j < ns.length) : (ins ns i nd)[j + 1]'(by rw [ins_len hi]; omega) = ns[j] := by
  simp only [ins]
  rw [List.getElem_append_right (by simp; omega)]
  simp only [List.length_take, Nat.min_eq_left hi]
  rw [List.getElem_cons]
  rw [dif_neg (by omega), List.getElem_drop]
  congr 1
  omega
theorem nxt_ins_near {l q : Nat} (hi : i ≤ ns.length) (hq : q ≤ i) (h : nxt ns l q < i) : nxt (ins ns i nd) l q = nxt ns l q := by
  have hge := nxt_ge ns l q
  refine nxt_unique hge (by rw [ins_len hi]; omega) (fun j h1 h2 => ?_) (fun h' => ?_)
  · rw [ins_before hi (by omega)]
    exact nxt_before h1 h2 (by omega)
  · rw [ins_before hi h]
    exact nxt_at (by omega)
theorem nxt_ins_new {l q : Nat} (hi : i ≤ ns.length) (hq : q ≤ i) (h : i ≤ nxt ns l q) (hl : l < nd.t) : nxt (ins ns i nd) l q = i := by
  refine nxt_unique hq (by rw [ins_len hi]; omega) (fun j h1 h2 => ?_) (fun h' => ?_)
  · rw [ins_before hi h2]
    exact nxt_before h1 (by omega) (by omega)
  · rw [ins_at hi]
    exact hl
theorem nxt_ins_past {l q : Nat} (hi : i ≤ ns.length) (hq : q ≤ i) (h : i ≤ nxt ns l q) (hl : nd.t ≤ l) : nxt (ins ns i nd) l q = nxt ns l q + 1 := by
  have hle := nxt_le (ns := ns) (l := l) (p := q) (by omega)
  refine nxt_unique (by omega) (by rw [ins_len hi]; omega) (fun j h1 h2 => ?_) (fun h' => ?_)
  · rcases Nat.lt_trichotomy j i with h3 | h3 | h3
    · rw [ins_before hi h3]
      exact nxt_before h1 (by omega) (by omega)
    · subst h3
      rw [ins_at hi]
      exact hl
    · obtain ⟨c, rfl⟩ : ∃ c, j = c + 1 := ⟨j - 1, by omega⟩
      rw [ins_behind (j := c) hi (by omega) (by omega)]
      exact nxt_before (i := c) (p := q) (by omega) (by omega) (by omega)
  · rw [ins_len hi] at h'
    rw [ins_behind hi h (by omega)]
    exact nxt_at (by omega)
theorem nxt_ins_far {l q : Nat} (hi : i ≤ ns.length) (hq : i ≤ q) (hl : q ≤ ns.length) : nxt (ins ns i nd) l (q + 1) = nxt ns l q + 1 := by
  have hle := nxt_le (ns := ns) (l := l) (p := q) hl
  have hge := nxt_ge ns l q
  refine nxt_unique (by omega) (by rw [ins_len hi]; omega) (fun j h1 h2 => ?_) (fun h' => ?_)
  · obtain ⟨c, rfl⟩ : ∃ c, j = c + 1 := ⟨j - 1, by omega⟩
    rw [ins_behind (j := c) hi (by omega) (by omega)]
    exact nxt_before (i := c) (p := q) (by omega) (by omega) (by omega)
  · rw [ins_len hi] at h'
    rw [ins_behind hi (by omega) (by omega)]
    exact nxt_at (by omega)
theorem ins_ordered (ho : Ordered ns) (hi : i = fnd ns nd.k) (hne : (h : i < ns.length) → ns[i].k ≠ nd.k) : Ordered (ins ns i nd) := by
  have hl : i ≤ ns.length := by rw [hi]; exact fnd_le _ _
  have hb : ∀ j (h : j < i), klt (ns[j]'(by omega)).k nd.k = true := fun j h => fnd_before (by omega)
  have ha : ∀ j (h : i ≤ j) (hj : j < ns.length), klt nd.k ns[j].k = true := fun j h hj => by
    cases h' : klt nd.k ns[j].k with
    | true => rfl
    | false =>
      have h1 := fnd_from (k := nd.k) ho (by omega) hj
      have h2 := klt_total _ _ h1 h'
      rcases Nat.eq_or_lt_of_le h with e | e
      · subst e; exact absurd h2 (hne hj)
      · have h3 := ordered_lt ho e hj
        have h4 := fnd_at (ns := ns) (k := nd.k) (by omega)
        rw [h2] at h3
        have h5 : klt (ns[fnd ns nd.k]'(by omega)).k nd.k = true := by
          simpa only [hi] using h3
        rw [h5] at h4; cases h4
  refine List.pairwise_iff_getElem.2 fun a b h1 h2 hab => ?_
  rw [ins_len hl] at h1 h2
  rcases Nat.lt_trichotomy b i with hb' | hb' | hb'
  · rw [ins_before hl (by omega), ins_before hl hb']
    exact ordered_lt ho hab (by omega)
  · subst hb'
    rw [ins_before hl (by omega), ins_at hl]
    exact hb a hab
  · obtain ⟨d, rfl⟩ : ∃ d, b = d + 1 := ⟨b - 1, by omega⟩
    rw [ins_behind (j := d) hl (by omega) (by omega)]
    rcases Nat.lt_trichotomy a i with ha' | ha' | ha'
    · rw [ins_before hl ha']
      exact klt_trans (hb a ha') (ha d (by omega) (by omega))
    · subst ha'
      rw [ins_at hl]
      exact ha d (by omega) (by omega)
    · obtain ⟨c, rfl⟩ : ∃ c, a = c + 1 := ⟨a - 1, by omega⟩
      rw [ins_behind (j := c) hl (by omega) (by omega)]
      exact ordered_lt ho (by omega) (by omega)
end

/-! ### the tallest -/
def tmax (ts : List Nat) : Nat := ts.foldl max 0
theorem foldl_max (ts : List Nat) : ∀ a, ts.foldl max a = max a (tmax ts) := by
  induction ts with
  | nil => intro a; simp [tmax]
  | cons t r ih =>
    intro a
    have h1 := ih (max a t)
    have h2 := ih (max 0 t)
    simp only [tmax, List.foldl_cons] at *
    rw [h1, h2]
    omega
theorem tmax_le (ts : List Nat) : ∀ t ∈ ts, t ≤ tmax ts := by
  induction ts with
  | nil => intro t h; cases h
  | cons a r ih =>
    intro t h
    have h1 := foldl_max r (max 0 a)
    simp only [tmax, List.foldl_cons] at *
    rw [h1]
    rcases List.mem_cons.1 h with rfl | h'
    · omega
    · have := ih t h'; omega
theorem tmax_append (a b : List Nat) : tmax (a ++ b) = max (tmax a) (tmax b) := by
  rw [tmax, List.foldl_append, foldl_max]
  rfl
theorem tmax_cons (t : Nat) (b : List Nat) : tmax (t :: b) = max t (tmax b) := by
  rw [tmax, List.foldl_cons, foldl_max]
  omega
theorem tmax_bound (ts : List Nat) (m : Nat) (h : ∀ t ∈ ts, t ≤ m) : tmax ts ≤ m := by
  induction ts with
  | nil => simp [tmax]
  | cons t r ih =>
    rw [tmax_cons]
    have h1 := h t (List.mem_cons_self ..)
    have h2 := ih fun x hx => h x (List.mem_cons_of_mem _ hx)
    omega
def hi (ns : List Nd) : Nat := tmax (ns.map Nd.t)
theorem hi_ins (ns : List Nd) (i : Nat) (nd : Nd) : hi (ins ns i nd) = max (hi ns) nd.t := by
  have e : hi ns = max (tmax ((ns.take i).map Nd.t)) (tmax ((ns.drop i).map Nd.t)) := by
    rw [← tmax_append, ← List.map_append, List.take_append_drop]
    rfl
  rw [e, hi, ins, List.map_append, List.map_cons, tmax_append, tmax_cons]
  omega
theorem le_hi {ns : List Nd} : ∀ n ∈ ns, n.t ≤ hi ns := fun n h => tmax_le _ _ (List.mem_map.2 ⟨n, h, rfl⟩)

end Go.Proofs.Ytkbjbjkgohkkjaa
