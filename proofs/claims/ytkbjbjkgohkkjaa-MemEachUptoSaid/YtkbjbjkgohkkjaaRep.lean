/-
  The skip list in memory: a node a block, its tower a block, its key and value in rows of the table's own; what keeps it. No condition.
-/
import Derived.Test.YtkbjbjkgohkkjaaSkip
import Derived.Test.YtkbjbjkgohkkjaaLoopW
namespace Go.Proofs.Ytkbjbjkgohkkjaa
open Go.RowKit Go.Shelf

/-- where a node lies: its block, its tower's block, its key's and value's slices -/
structure Nw where
  b : Nat
  x : Nat
  kv : Value
  vv : Value

/-- a pointer to node number m; behind the last: nil -/
def pN (ms : List Nw) (m : Nat) : Value := .pointer ((ms[m]?).map fun n => ⟨n.b, 0, none⟩)
/-- a place's height: the head's is 12 -/
def tl (ns : List Nd) (q : Nat) : Nat := (12 :: ns.map Nd.t).getD q 0
/-- a place's tower -/
def arrV (ns : List Nd) (ms : List Nw) (q : Nat) : List Value := (List.range (tl ns q)).map fun l => pN ms (nxt ns l q)

/-- the blocks of the list -/
def Foot (hd : Nw) (ms : List Nw) (g : Nat) : Prop := ∃ n ∈ hd :: ms, g = n.b ∨ g = n.x ∨ n.kv.ownBlock = some g ∨ n.vv.ownBlock = some g

structure SL (w : World) (base : Nat) (ns : List Nd) (hd : Nw) (ms : List Nw) : Prop where
  len : ms.length = ns.length
  node : ∀ (q : Nat) (n : Nw), (hd :: ms)[q]? = some n → Blk w n.b 83 #[n.kv, n.vv, .slice (some ⟨n.x, 0, none⟩) (tl ns q) (tl ns q)]
  arr : ∀ (q : Nat) (n : Nw), (hd :: ms)[q]? = some n → Blk w n.x 28 (arrV ns ms q).toArray
  kv : ∀ (i : Nat) (n : Nw) (d : Nd), ms[i]? = some n → ns[i]? = some d → Mine 5 w base n.kv d.k
  vv : ∀ (i : Nat) (n : Nw) (d : Nd), ms[i]? = some n → ns[i]? = some d → Mine 5 w base n.vv d.v
  hkv : hd.kv = .slice none 0 0
  hvv : hd.vv = .slice none 0 0
  nb : ((hd :: ms).map Nw.b).Nodup
  nx : ((hd :: ms).map Nw.x).Nodup
  low : ∀ n ∈ hd :: ms, base ≤ n.b ∧ base ≤ n.x
  tall : ∀ d ∈ ns, 1 ≤ d.t ∧ d.t ≤ 12
  ord : Ordered ns
  short : ∀ d ∈ ns, d.k.length ≤ 1000000 ∧ d.v.length ≤ 1000000

theorem tl_zero (ns : List Nd) : tl ns 0 = 12 := rfl
theorem tl_succ {ns : List Nd} {i : Nat} (h : i < ns.length) : tl ns (i + 1) = ns[i].t := by
  simp [tl, List.getD_eq_getElem?_getD, List.getElem?_eq_getElem h]

section
variable {w w' : World} {base : Nat} {ns : List Nd} {hd : Nw} {ms : List Nw}
theorem SL.foot_kind (h : SL w base ns hd ms) {g : Nat} (hg : Foot hd ms g) : base ≤ g ∧ ∃ cs t r, w.heap[g]? = some (.cells cs t r) ∧ (t = 83 ∨ t = 28 ∨ t = 5) := by
  obtain ⟨n, hn, hc⟩ := hg
  obtain ⟨q, hq⟩ := List.mem_iff_getElem?.1 hn
  have hl := h.low n hn
  have hrow : ∀ v, v.ownBlock = some g → (∃ ks, Mine 5 w base v ks) → base ≤ g ∧ ∃ cs t r, w.heap[g]? = some (.cells cs t r) ∧ (t = 83 ∨ t = 28 ∨ t = 5) := fun v hv ⟨ks, hm⟩ => by
    obtain ⟨cs, r, hh⟩ := ownsRow_own hm hv
    exact ⟨(hm.lt hv).1, cs, 5, r, hh, .inr (.inr rfl)⟩
  have hkvs : ∀ v, v = n.kv ∨ v = n.vv → v.ownBlock = some g → ∃ ks, Mine 5 w base v ks := fun v he hv => by
    cases q with
    | zero =>
      have : hd = n := by simpa using hq
      subst this
      rw [h.hkv, h.hvv, or_self] at he
      subst he
      cases hv
    | succ i =>
      have hq' : ms[i]? = some n := by simpa using hq
      have hi : i < ns.length := by rw [← h.len]; exact (List.getElem?_eq_some_iff.1 hq').1
      have hd' := List.getElem?_eq_getElem hi
      rcases he with rfl | rfl
      · exact ⟨_, h.kv i n _ hq' hd'⟩
      · exact ⟨_, h.vv i n _ hq' hd'⟩
  rcases hc with rfl | rfl | hk | hv
  · exact ⟨hl.1, _, _, _, h.node q n hq, .inl rfl⟩
  · exact ⟨hl.2, _, _, _, h.arr q n hq, .inr (.inl rfl)⟩
  · exact hrow _ hk (hkvs _ (.inl rfl) hk)
  · exact hrow _ hv (hkvs _ (.inr rfl) hv)
theorem SL.foot_lt (h : SL w base ns hd ms) {g : Nat} (hg : Foot hd ms g) : g < w.heap.size := by
  obtain ⟨_, cs, t, r, hh, _⟩ := h.foot_kind hg
  exact (Array.getElem?_eq_some_iff.1 hh).1
theorem Foot.b {n : Nw} (h : n ∈ hd :: ms) : Foot hd ms n.b := ⟨n, h, .inl rfl⟩
theorem Foot.x {n : Nw} (h : n ∈ hd :: ms) : Foot hd ms n.x := ⟨n, h, .inr (.inl rfl)⟩

/-- what lies elsewhere may turn -/
theorem SL.keep (h : SL w base ns hd ms) (hh : ∀ g, Foot hd ms g → w'.heap[g]? = w.heap[g]?) : SL w' base ns hd ms := by
  have hmem : ∀ (i : Nat) (n : Nw), ms[i]? = some n → n ∈ hd :: ms := fun i n e => List.mem_cons_of_mem _ (List.mem_of_getElem? e)
  exact ⟨h.len, fun q n e => (hh _ (Foot.b (List.mem_of_getElem? e))).trans (h.node q n e), fun q n e => (hh _ (Foot.x (List.mem_of_getElem? e))).trans (h.arr q n e),
    fun i n d e1 e2 => (h.kv i n d e1 e2).of_heap fun g hg => hh g ⟨n, hmem i n e1, .inr (.inr (.inl hg))⟩,
    fun i n d e1 e2 => (h.vv i n d e1 e2).of_heap fun g hg => hh g ⟨n, hmem i n e1, .inr (.inr (.inr hg))⟩,
    h.hkv, h.hvv, h.nb, h.nx, h.low, h.tall, h.ord, h.short⟩
theorem SL.below {B : Nat} (h : SL w base ns hd ms) (hb : Below B w w') (hB : w.heap.size ≤ B) : SL w' base ns hd ms := h.keep fun g hg => hb.block g (by have := h.foot_lt hg; omega)
theorem SL.alloc (h : SL w base ns hd ms) (o : Obj) : SL (w.alloc o) base ns hd ms := h.below ((Below.refl _ w).alloc (Nat.le_refl _) o) (Nat.le_refl _)
theorem SL.drewN (h : SL w base ns hd ms) (k : Nat) : SL (w.drewN k) base ns hd ms := h.keep fun _ _ => rfl
/-- a change of a block that is no block of the list's -/
theorem SL.grown (h : SL w base ns hd ms) {r : Nat} (hg : w.grownBy w' (some r)) (hr : ¬ Foot hd ms r) : SL w' base ns hd ms :=
  h.keep fun g hf => hg.block g (h.foot_lt hf) (fun e => hr (by injection e with e; subst e; exact hf))
theorem SL.not_foot (h : SL w base ns hd ms) {g : Nat} {t : TypeId} {cs : Array Value} {r : Nat × Nat} (hb : w.heap[g]? = some (.cells cs t r)) (h1 : t ≠ 83) (h2 : t ≠ 28) (h3 : t ≠ 5) : ¬ Foot hd ms g := fun hf => by
  obtain ⟨_, cs', t', r', hh, ht⟩ := h.foot_kind hf
  rw [hb] at hh
  injection hh with hh
  injection hh with _ e _
  subst e
  rcases ht with e | e | e
  · exact h1 e
  · exact h2 e
  · exact h3 e

/-! ### reading -/
/-- a place's node -/
theorem SL.at_ (h : SL w base ns hd ms) {q : Nat} (hq : q ≤ ns.length) : ∃ n, (hd :: ms)[q]? = some n := ⟨(hd :: ms)[q]'(by rw [List.length_cons, h.len]; omega), List.getElem?_eq_getElem _⟩
theorem pN_some {i : Nat} {n : Nw} (h : ms[i]? = some n) : pN ms i = .pointer (some ⟨n.b, 0, none⟩) := by simp [pN, h]
theorem pN_none {i : Nat} (h : ms.length ≤ i) : pN ms i = .pointer none := by simp [pN, List.getElem?_eq_none h]
/-- what a place's tower holds at a level -/
theorem SL.tower (h : SL w base ns hd ms) {q l : Nat} {n : Nw} (e : (hd :: ms)[q]? = some n) (hl : l < tl ns q) : w.cell? ⟨n.x, l, none⟩ = some (pN ms (nxt ns l q)) := by
  rw [(h.arr q n e).cell]
  simp [arrV, hl]
end

end Go.Proofs.Ytkbjbjkgohkkjaa
