/-
  What a call may turn: the blocks of a set. A value of the skip list turned. No condition.
-/
import Derived.Test.YtkbjbjkgohkkjaaIns
namespace Go.Proofs.Ytkbjbjkgohkkjaa
open Go.RowKit Go.Shelf

/-- of the blocks that were there just those of a set have turned -/
structure Moved (P : Nat → Prop) (w w' : World) : Prop where
  os : w'.os = w.os
  tape : w'.tape = w.tape
  output : w'.output = w.output
  size : w.heap.size ≤ w'.heap.size
  block : ∀ k, k < w.heap.size → ¬ P k → w'.heap[k]? = w.heap[k]?
section
variable {P : Nat → Prop} {w w' w'' : World}
theorem Moved.refl (P : Nat → Prop) (w : World) : Moved P w w := ⟨rfl, rfl, rfl, Nat.le_refl _, fun _ _ _ => rfl⟩
theorem Moved.trans (h : Moved P w w') (k : Moved P w' w'') : Moved P w w'' :=
  ⟨k.os.trans h.os, k.tape.trans h.tape, k.output.trans h.output, Nat.le_trans h.size k.size, fun i hi hp => (k.block i (Nat.lt_of_lt_of_le hi h.size) hp).trans (h.block i hi hp)⟩
theorem Moved.mono {Q : Nat → Prop} (h : Moved P w w') (hq : ∀ g, P g → Q g) : Moved Q w w' := ⟨h.os, h.tape, h.output, h.size, fun k hk hn => h.block k hk (fun hp => hn (hq k hp))⟩
theorem Moved.of_below {B : Nat} (h : Below B w w') (hB : w.heap.size ≤ B) : Moved P w w' := ⟨h.os, h.tape, h.output, h.size, fun k hk _ => h.block k (by omega)⟩
theorem Moved.of_grown {g : Nat} (h : w.grownBy w' (some g)) (hg : P g) : Moved P w w' := ⟨h.os, h.tape, h.output, h.size, fun k hk hn => h.block k hk (fun e => by injection e with e; subst e; exact hn hg)⟩
theorem Moved.set (h : Moved P w w') {p : Addr} (hp : w.heap.size ≤ p.block ∨ P p.block) (v : Value) : Moved P w (w'.setCell p v) :=
  ⟨h.os, h.tape, h.output, by simpa using h.size, fun k hk hn => (Below.heap_setCell w' p v k (fun e => by
    rcases hp with h' | h'
    · omega
    · rw [← e] at h'; exact hn h')).trans (h.block k hk hn)⟩
theorem Moved.alloc (h : Moved P w w') (o : Obj) : Moved P w (w'.alloc o) := h.trans (Moved.of_below ((Below.refl _ w').alloc (Nat.le_refl _) o) (Nat.le_refl _))
theorem Moved.drewN (h : Moved P w w') (n : Nat) : Moved P w (w'.drewN n) := ⟨h.os, h.tape, h.output, h.size, h.block⟩
/-- as 'below': where the set lies from B on -/
theorem Moved.below {B : Nat} (h : Moved P w w') (hP : ∀ g, P g → B ≤ g) (hB : B ≤ w.heap.size) : Below B w w' :=
  ⟨h.os, h.tape, h.output, h.size, fun k hk => h.block k (by omega) (fun hp => by have := hP k hp; omega)⟩
/-- .. a block that is none of the set's -/
theorem Moved.at_ (h : Moved P w w') {g : Nat} {o : Obj} (hg : w.heap[g]? = some o) (hn : ¬ P g) : w'.heap[g]? = some o := (h.block g (Array.getElem?_eq_some_iff.1 hg).1 hn).trans hg
end

theorem modify_get {α : Type} (l : List α) (i j : Nat) (f : α → α) : (l.modify i f)[j]? = (l[j]?).map fun a => if i = j then f a else a := by
  rw [List.getElem?_modify]
  rfl

/-! ### a value turned -/
theorem nxt_congr {ns ns' : List Nd} (h : ns.map Nd.t = ns'.map Nd.t) {l p : Nat} (hp : p ≤ ns.length) : nxt ns l p = nxt ns' l p := by
  have hlen : ns.length = ns'.length := by have := congrArg List.length h; simpa using this
  have ht : ∀ i (h1 : i < ns.length) (h2 : i < ns'.length), ns[i].t = ns'[i].t := fun i h1 h2 => by
    have := congrArg (·[i]?) h
    simp only [List.getElem?_map, List.getElem?_eq_getElem h1, List.getElem?_eq_getElem h2, Option.map_some, Option.some.injEq] at this
    exact this
  have hle := nxt_le (ns := ns') (l := l) (p := p) (by omega)
  refine nxt_unique (nxt_ge _ _ _) (by omega) (fun i h1 h2 => ?_) (fun h' => ?_)
  · rw [ht i (by omega) (by omega)]
    exact nxt_before h1 h2 (by omega)
  · rw [ht _ h' (by omega)]
    exact nxt_at (by omega)
theorem tl_congr {ns ns' : List Nd} (h : ns.map Nd.t = ns'.map Nd.t) (q : Nat) : tl ns q = tl ns' q := by unfold tl; rw [h]
/-- number i's value is v -/
def setN (ns : List Nd) (i : Nat) (v : Key) : List Nd := ns.modify i fun d => ⟨d.k, v, d.t⟩
theorem setN_t (ns : List Nd) (i : Nat) (v : Key) : (setN ns i v).map Nd.t = ns.map Nd.t := by
  apply List.ext_getElem?
  intro j
  simp only [setN, List.getElem?_map, List.getElem?_modify]
  cases ns[j]? with
  | none => rfl
  | some d => simp only [Option.map_some]; split <;> rfl
theorem setN_k (ns : List Nd) (i : Nat) (v : Key) : (setN ns i v).map Nd.k = ns.map Nd.k := by
  apply List.ext_getElem?
  intro j
  simp only [setN, List.getElem?_map, List.getElem?_modify]
  cases ns[j]? with
  | none => rfl
  | some d => simp only [Option.map_some]; split <;> rfl
theorem setN_len (ns : List Nd) (i : Nat) (v : Key) : (setN ns i v).length = ns.length := by simp [setN]
def setM (ms : List Nw) (i : Nat) (vv : Value) : List Nw := ms.modify i fun n => ⟨n.b, n.x, n.kv, vv⟩
theorem setM_b (hd : Nw) (ms : List Nw) (i : Nat) (vv : Value) : (hd :: setM ms i vv).map Nw.b = (hd :: ms).map Nw.b := by
  rw [List.map_cons, List.map_cons]
  congr 1
  apply List.ext_getElem?
  intro j
  simp only [setM, List.getElem?_map, List.getElem?_modify]
  cases ms[j]? with
  | none => rfl
  | some d => simp only [Option.map_some]; split <;> rfl
theorem setM_x (hd : Nw) (ms : List Nw) (i : Nat) (vv : Value) : (hd :: setM ms i vv).map Nw.x = (hd :: ms).map Nw.x := by
  rw [List.map_cons, List.map_cons]
  congr 1
  apply List.ext_getElem?
  intro j
  simp only [setM, List.getElem?_map, List.getElem?_modify]
  cases ms[j]? with
  | none => rfl
  | some d => simp only [Option.map_some]; split <;> rfl
theorem setM_pN (ms : List Nw) (i : Nat) (vv : Value) (m : Nat) : pN (setM ms i vv) m = pN ms m := by
  unfold pN
  simp only [setM, List.getElem?_modify]
  cases ms[m]? with
  | none => rfl
  | some d => simp only [Option.map_some]; split <;> rfl
theorem setN_ordered {ns : List Nd} (h : Ordered ns) (i : Nat) (v : Key) : Ordered (setN ns i v) := by
  have e : ∀ l : List Nd, Ordered l ↔ (l.map Nd.k).Pairwise (fun a b => klt a b = true) := fun l => by unfold Ordered; rw [List.pairwise_map]
  rw [e] at h ⊢
  rw [setN_k]
  exact h

section
variable {w w' : World} {base : Nat} {ns : List Nd} {hd : Nw} {ms : List Nw}
theorem SL.value (h : SL w base ns hd ms) {i : Nat} {n : Nw} (hn : ms[i]? = some n) {v : Key} {vv : Value} (hv : Mine 5 w base vv v) (hsh : v.length ≤ 1000000) :
    SL (w.setCell ⟨n.b, 1, none⟩ vv) base (setN ns i v) hd (setM ms i vv) := by
  have hi : i < ms.length := (List.getElem?_eq_some_iff.1 hn).1
  have hi' : i < ns.length := by rw [← h.len]; exact hi
  have hnode := h.node (i + 1) n (by simpa using hn)
  have hplace : ∀ (q : Nat) (m : Nw), (hd :: setM ms i vv)[q]? = some m → ∃ m0, (hd :: ms)[q]? = some m0 ∧ m.b = m0.b ∧ m.x = m0.x ∧ m.kv = m0.kv ∧ (q ≠ i + 1 → m = m0) ∧ (q = i + 1 → m.vv = vv) := fun q m e => by
    rcases q with _ | p
    · exact ⟨hd, rfl, by simp at e; subst e; exact ⟨rfl, rfl, rfl, fun _ => rfl, fun h => by omega⟩⟩
    · simp only [List.getElem?_cons_succ, setM, modify_get] at e
      cases e0 : ms[p]? with
      | none => rw [e0] at e; simp at e
      | some m0 =>
        rw [e0] at e
        simp only [Option.map_some, Option.some.injEq] at e
        refine ⟨m0, by simpa using e0, ?_⟩
        by_cases hp : i = p
        · subst hp
          rw [if_pos rfl] at e
          subst e
          exact ⟨rfl, rfl, rfl, fun h => absurd rfl h, fun _ => rfl⟩
        · rw [if_neg hp] at e
          subst e
          exact ⟨rfl, rfl, rfl, fun _ => rfl, fun h => by omega⟩
  have hbne : ∀ (q : Nat) (m0 : Nw), (hd :: ms)[q]? = some m0 → q ≠ i + 1 → m0.b ≠ n.b := fun q m0 e hq hb => by
    have h1 : ((hd :: ms).map Nw.b)[q]? = some m0.b := by rw [List.getElem?_map, e]; rfl
    have h2 : ((hd :: ms).map Nw.b)[i + 1]? = some n.b := by rw [List.getElem?_map, List.getElem?_cons_succ, hn]; rfl
    rw [hb, ← h2] at h1
    have hq1 : q < ((hd :: ms).map Nw.b).length := by
      rcases Nat.lt_or_ge q ((hd :: ms).map Nw.b).length with h' | h'
      · exact h'
      · rw [List.getElem?_eq_none h', h2] at h1; cases h1
    exact hq ((List.getElem_inj (h₀ := hq1) (h₁ := by simp; omega) h.nb).1 (by
      rw [List.getElem?_eq_getElem hq1, List.getElem?_eq_getElem (by simp; omega)] at h1
      injection h1))
  have hrow5 : ∀ (v' : Value) (ks : List UInt8), Mine 5 w base v' ks → Mine 5 (w.setCell ⟨n.b, 1, none⟩ vv) base v' ks := fun v' ks hm =>
    hm.of_heap fun g hg => Below.heap_setCell w _ vv g (fun e => by
      obtain ⟨cs, r, hh⟩ := ownsRow_own hm hg
      have e' : g = n.b := e
      subst e'
      rw [show w.heap[n.b]? = _ from hnode] at hh
      injection hh with hh
      injection hh with _ e5 _
      cases e5)
  have hpl : ∀ (q : Nat) (m0 : Nw), (hd :: ms)[q]? = some m0 → q ≤ ns.length := fun q m0 e => by
    have := (List.getElem?_eq_some_iff.1 e).1
    rw [List.length_cons, h.len] at this
    omega
  refine ⟨by simp [setM, setN, h.len], fun q m e => ?_, fun q m e => ?_, fun j m d e1 e2 => ?_, fun j m d e1 e2 => ?_, h.hkv, h.hvv, by rw [setM_b]; exact h.nb, by rw [setM_x]; exact h.nx, fun m hm => ?_, fun d hd' => ?_, setN_ordered h.ord i v, fun d hd' => ?_⟩
  · obtain ⟨m0, e0, hb, hx, hk, hne, heq⟩ := hplace q m e
    rw [tl_congr (setN_t ns i v)]
    by_cases hq : q = i + 1
    · subst hq
      rw [heq rfl, hk, hx, hb]
      have e3 : m0 = n := by
        have : ms[i]? = some m0 := by simpa using e0
        rw [hn] at this
        injection this with this
        exact this.symm
      subst e3
      exact (h.node (i + 1) m0 e0).put 1 vv
    · rw [hne hq]
      exact (h.node q m0 e0).far (hbne q m0 e0 hq) vv
  · obtain ⟨m0, e0, hb, hx, hk, hne, heq⟩ := hplace q m e
    have := (h.arr q m0 e0).far (p := ⟨n.b, 1, none⟩) (fun e => by
      have h1 := h.arr q m0 e0
      have e' : m0.x = n.b := e
      rw [e'] at h1
      have h1 : w.heap[n.b]? = _ := h1
      rw [show w.heap[n.b]? = _ from hnode] at h1
      injection h1 with h1
      injection h1 with _ e5 _
      cases e5) vv
    rw [hx, show arrV (setN ns i v) (setM ms i vv) q = arrV ns ms q from ?_]
    · exact this
    · unfold arrV
      rw [tl_congr (setN_t ns i v)]
      refine List.map_congr_left fun l _ => ?_
      rw [setM_pN, nxt_congr (setN_t ns i v) (by rw [setN_len]; exact hpl q m0 e0)]
  · obtain ⟨m0, e0, hb, hx, hk, hne, heq⟩ := hplace (j + 1) m (by simpa using e1)
    have e0' : ms[j]? = some m0 := by simpa using e0
    have hj : j < ns.length := by rw [← h.len]; exact (List.getElem?_eq_some_iff.1 e0').1
    have hdk : d.k = ns[j].k := by
      have h1 : ((setN ns i v).map Nd.k)[j]? = some d.k := by rw [List.getElem?_map, e2]; rfl
      rw [setN_k, List.getElem?_map, List.getElem?_eq_getElem hj] at h1
      simpa using h1.symm
    rw [hk, hdk]
    exact hrow5 _ _ (h.kv j m0 _ e0' (List.getElem?_eq_getElem hj))
  · obtain ⟨m0, e0, hb, hx, hk, hne, heq⟩ := hplace (j + 1) m (by simpa using e1)
    have e0' : ms[j]? = some m0 := by simpa using e0
    have hj : j < ns.length := by rw [← h.len]; exact (List.getElem?_eq_some_iff.1 e0').1
    simp only [setN, modify_get, List.getElem?_eq_getElem hj, Option.map_some, Option.some.injEq] at e2
    by_cases hij : i = j
    · subst hij
      rw [if_pos rfl] at e2
      subst e2
      rw [heq rfl]
      exact hrow5 _ _ hv
    · rw [if_neg hij] at e2
      subst e2
      rw [hne (by omega)]
      exact hrow5 _ _ (h.vv j m0 _ e0' (List.getElem?_eq_getElem hj))
  · obtain ⟨q, hq⟩ := List.mem_iff_getElem?.1 hm
    obtain ⟨m0, e0, hb, hx, _⟩ := hplace q m hq
    rw [hb, hx]
    exact h.low m0 (List.mem_of_getElem? e0)
  · have : d.t ∈ (setN ns i v).map Nd.t := List.mem_map.2 ⟨d, hd', rfl⟩
    rw [setN_t] at this
    obtain ⟨d0, h1, h2⟩ := List.mem_map.1 this
    rw [← h2]
    exact h.tall d0 h1
  · obtain ⟨j, hj⟩ := List.mem_iff_getElem?.1 hd'
    simp only [setN, modify_get] at hj
    cases e0 : ns[j]? with
    | none => rw [e0] at hj; simp at hj
    | some d0 =>
      rw [e0] at hj
      simp only [Option.map_some, Option.some.injEq] at hj
      have hs := h.short d0 (List.mem_of_getElem? e0)
      by_cases hij : i = j
      · rw [if_pos hij] at hj
        subst hj
        exact ⟨hs.1, hsh⟩
      · rw [if_neg hij] at hj
        subst hj
        exact hs
end

end Go.Proofs.Ytkbjbjkgohkkjaa
