/-
  The new node's tower laid level by level: what the loop of Put keeps. No condition but what the law asks.
-/
import Derived.Test.YtkbjbjkgohkkjaaMove
namespace Go.Proofs.Ytkbjbjkgohkkjaa
open Go.RowKit Go.Shelf

theorem Moved.fresh {P : Nat → Prop} {w w' : World} (h : Moved (fun r => P r ∨ w.heap.size ≤ r) w w') : Moved P w w' :=
  ⟨h.os, h.tape, h.output, h.size, fun k hk hn => h.block k hk (fun hp => by rcases hp with hp | hp; exact hn hp; omega)⟩

section
variable {w w' : World} {base : Nat} {ns : List Nd} {hd : Nw} {ms : List Nw}
/-- a block of one type is none of another's -/
theorem blk_ne {w : World} {a b : Nat} {s t : TypeId} {cs ds : Array Value} (ha : Blk w a s cs) (hb : Blk w b t ds) (h : s ≠ t) : a ≠ b := fun e => by
  subst e
  have hb := (show w.heap[a]? = _ from ha).symm.trans hb
  injection hb with hb
  injection hb with _ e _
  exact h e
theorem SL.bx (h : SL w base ns hd ms) {n n' : Nw} (hn : n ∈ hd :: ms) (hn' : n' ∈ hd :: ms) : n.b ≠ n'.x := by
  obtain ⟨q, hq⟩ := List.mem_iff_getElem?.1 hn
  obtain ⟨q', hq'⟩ := List.mem_iff_getElem?.1 hn'
  exact blk_ne (h.node q n hq) (h.arr q' n' hq') (by decide)
/-- a row's block is no tower's -/
theorem SL.row_ne (h : SL w base ns hd ms) {n n' : Nw} (hn : n ∈ hd :: ms) (hn' : n' ∈ hd :: ms) {r : Nat} (hr : n.kv.ownBlock = some r ∨ n.vv.ownBlock = some r) : r ≠ n'.x := fun e => by
  obtain ⟨q', hq'⟩ := List.mem_iff_getElem?.1 hn'
  have hx := h.arr q' n' hq'
  subst e
  have key : ∀ (u : Value) (ks : List UInt8), Mine 5 w base u ks → u.ownBlock ≠ some n'.x := fun u ks hm e => by
    obtain ⟨cs, f, hh⟩ := ownsRow_own hm e
    have := hh.symm.trans hx
    injection this with this
    injection this with _ e _
    cases e
  rcases List.mem_cons.1 hn with rfl | hn
  · rw [h.hkv, h.hvv] at hr
    rcases hr with hr | hr <;> cases hr
  · obtain ⟨i, hi⟩ := List.mem_iff_getElem?.1 hn
    have hl : i < ns.length := by rw [← h.len]; exact (List.getElem?_eq_some_iff.1 hi).1
    rcases hr with hr | hr
    · exact key _ _ (h.kv i n _ hi (List.getElem?_eq_getElem hl)) hr
    · exact key _ _ (h.vv i n _ hi (List.getElem?_eq_getElem hl)) hr
theorem SL.x_inj (h : SL w base ns hd ms) {q q' : Nat} {n n' : Nw} (e : (hd :: ms)[q]? = some n) (e' : (hd :: ms)[q']? = some n') (hx : n.x = n'.x) : q = q' := by
  have h1 : ((hd :: ms).map Nw.x)[q]? = some n.x := by rw [List.getElem?_map, e]; rfl
  have h2 : ((hd :: ms).map Nw.x)[q']? = some n'.x := by rw [List.getElem?_map, e']; rfl
  have hq := (List.getElem?_eq_some_iff.1 h1).1
  have hq' := (List.getElem?_eq_some_iff.1 h2).1
  refine (List.getElem_inj (h₀ := hq) (h₁ := hq') h.nx).1 ?_
  rw [List.getElem?_eq_getElem hq] at h1
  rw [List.getElem?_eq_getElem hq'] at h2
  injection h1 with h1
  injection h2 with h2
  rw [h1, h2, hx]
end

/-- the first j levels are laid -/
structure Laid (w5 : World) (ns : List Nd) (hd : Nw) (ms : List Nw) (qs : Nat → Nat) (nb nx t j : Nat) (wq : World) : Prop where
  mv : Moved (fun r => r = nx ∨ ∃ n ∈ hd :: ms, r = n.x) w5 wq
  arr : ∀ (q : Nat) (n : Nw), (hd :: ms)[q]? = some n → Blk wq n.x 28 (updV ns ms qs nb j q).toArray
  new : Blk wq nx 28 (newV ns ms qs t j).toArray

section
variable {w5 wq : World} {base : Nat} {ns : List Nd} {hd : Nw} {ms : List Nw} {qs : Nat → Nat} {nb nx t j : Nat}
theorem updV_zero (q : Nat) : updV ns ms qs nb 0 q = arrV ns ms q := by simp [updV, arrV]
theorem newV_zero : (newV ns ms qs t 0).toArray = nilsA t := by simp [newV, nilsA, List.map_const']
theorem newV_len : (newV ns ms qs t j).length = t := by simp [newV]
theorem updV_len (q : Nat) : (updV ns ms qs nb j q).length = tl ns q := by simp [updV]
theorem newV_step (hj : j < t) : (newV ns ms qs t j).set j (pN ms (nxt ns j (qs j))) = newV ns ms qs t (j + 1) := by
  apply List.ext_getElem
  · simp [newV]
  · intro i h1 h2
    rw [List.getElem_set]
    simp only [newV, List.getElem_map, List.getElem_range]
    by_cases e : j = i
    · subst e; rw [if_pos rfl, if_pos (by omega)]
    · rw [if_neg e]
      by_cases h3 : i < j
      · rw [if_pos h3, if_pos (by omega)]
      · rw [if_neg h3, if_neg (by omega)]
theorem updV_step : (updV ns ms qs nb j (qs j)).set j (.pointer (some ⟨nb, 0, none⟩)) = updV ns ms qs nb (j + 1) (qs j) := by
  apply List.ext_getElem
  · simp [updV]
  · intro i h1 h2
    rw [List.getElem_set]
    simp only [updV, List.getElem_map, List.getElem_range]
    by_cases e : j = i
    · subst e; rw [if_pos rfl, if_pos ⟨by omega, rfl⟩]
    · rw [if_neg e]
      by_cases h3 : i < j ∧ qs i = qs j
      · rw [if_pos h3, if_pos ⟨by omega, h3.2⟩]
      · rw [if_neg h3, if_neg (fun h => h3 ⟨by omega, h.2⟩)]
theorem updV_else {q : Nat} (h : qs j ≠ q) : updV ns ms qs nb (j + 1) q = updV ns ms qs nb j q := by
  unfold updV
  refine List.map_congr_left fun l _ => ?_
  by_cases h3 : l < j ∧ qs l = q
  · rw [if_pos h3, if_pos ⟨by omega, h3.2⟩]
  · rw [if_neg h3, if_neg]
    rintro ⟨h4, h5⟩
    by_cases e : l = j
    · subst e; exact h h5
    · exact h3 ⟨by omega, h5⟩
theorem Laid.start (h : SL w5 base ns hd ms) (hx : Blk w5 nx 28 (nilsA t)) : Laid w5 ns hd ms qs nb nx t 0 w5 :=
  ⟨Moved.refl _ _, fun q n e => by rw [updV_zero]; exact h.arr q n e, by rw [newV_zero]; exact hx⟩
theorem Laid.step (h : Laid w5 ns hd ms qs nb nx t j wq) (hs : SL w5 base ns hd ms) (hfx : ∀ n ∈ hd :: ms, n.x ≠ nx) {xq : Nw} (hq : (hd :: ms)[qs j]? = some xq) (hj : j < t) :
    Laid w5 ns hd ms qs nb nx t (j + 1) ((wq.setCell ⟨nx, j, none⟩ (pN ms (nxt ns j (qs j)))).setCell ⟨xq.x, j, none⟩ (.pointer (some ⟨nb, 0, none⟩))) := by
  have hm := List.mem_of_getElem? hq
  refine ⟨(h.mv.set (.inr (.inl rfl)) _).set (.inr (.inr ⟨xq, hm, rfl⟩)) _, fun q n e => ?_, ?_⟩
  · have h1 := (h.arr q n e).far (p := ⟨nx, j, none⟩) (fun e' => hfx n (List.mem_of_getElem? e) (by first | exact e' | exact e'.symm)) (pN ms (nxt ns j (qs j)))
    by_cases e1 : qs j = q
    · subst e1
      rw [hq] at e
      cases e
      have := h1.put j (.pointer (some ⟨nb, 0, none⟩))
      rw [← updV_step]
      simpa using this
    · rw [updV_else e1]
      exact h1.far (p := ⟨xq.x, j, none⟩) (fun e' => e1 (hs.x_inj hq e (by first | exact e' | exact e'.symm))) _
  · have h1 := (h.new.put j (pN ms (nxt ns j (qs j)))).far (p := ⟨xq.x, j, none⟩) (fun e' => hfx xq hm (by first | exact e' | exact e'.symm)) (.pointer (some ⟨nb, 0, none⟩))
    rw [← newV_step hj]
    simpa using h1
theorem Laid.drew (h : Laid w5 ns hd ms qs nb nx t j wq) : Laid w5 ns hd ms qs nb nx t j wq.drew := ⟨h.mv.drewN 1, h.arr, h.new⟩
/-- what a level holds that is not laid yet -/
theorem Laid.cell (h : Laid w5 ns hd ms qs nb nx t j wq) {q : Nat} {n : Nw} (e : (hd :: ms)[q]? = some n) (hl : j < tl ns q) : wq.cell? ⟨n.x, j, none⟩ = some (pN ms (nxt ns j q)) := by
  rw [(h.arr q n e).cell]
  simp [updV, hl]
theorem Laid.other (h : Laid w5 ns hd ms qs nb nx t j wq) {b i : Nat} (hb : b < w5.heap.size) (h1 : b ≠ nx) (h2 : ∀ n ∈ hd :: ms, b ≠ n.x) : wq.cell? ⟨b, i, none⟩ = w5.cell? ⟨b, i, none⟩ :=
  World.cell?_of_block (w := w5) (h.mv.block b hb (fun hp => by
    rcases hp with hp | ⟨n, hn, hp⟩
    · exact h1 hp
    · exact h2 n hn hp))

/-- all levels laid: the list with the new node, and its blocks -/
theorem Laid.done {k v : Key} {kv vv : Value} {B B' S : Nat} (h : Laid w5 ns hd ms qs nb nx t t wq) (hs : SL w5 base ns hd ms) (hne : (h : fnd ns k < ns.length) → ns[fnd ns k].k ≠ k) (ht : 1 ≤ t ∧ t ≤ 12) (hsh : k.length ≤ 1000000 ∧ v.length ≤ 1000000)
    (hqs : ∀ l, l < 12 → Lst ns k l (qs l)) (hF : ∀ g, Foot hd ms g → g < S) (hS : S ≤ nx ∧ S ≤ nb ∧ S ≤ B ∧ S ≤ B') (hxw : nx < w5.heap.size) (hnx : Blk w5 nx 28 (nilsA t)) (hnb : Blk w5 nb 83 #[kv, vv, .slice (some ⟨nx, 0, none⟩) t t])
    (hkv : Mine 5 w5 B kv k) (hvv : Mine 5 w5 B' vv v) (hb : base ≤ S) :
    SL wq base (ins ns (fnd ns k) ⟨k, v, t⟩) hd (insM ms (fnd ns k) ⟨nb, nx, kv, vv⟩) ∧ ∀ g, Foot hd (insM ms (fnd ns k) ⟨nb, nx, kv, vv⟩) g → Foot hd ms g ∨ S ≤ g := by
  have hstay : ∀ b, b < w5.heap.size → b ≠ nx → (∀ n ∈ hd :: ms, b ≠ n.x) → wq.heap[b]? = w5.heap[b]? := fun b h1 h2 h3 => h.mv.block b h1 (fun hp => by
    rcases hp with hp | ⟨n, hn, hp⟩
    · exact h2 hp
    · exact h3 n hn hp)
  have hx := fun n hn => hF _ (Foot.x (hd := hd) (ms := ms) (n := n) hn)
  have hrow : ∀ {B v ks}, S ≤ B → Mine 5 w5 B v ks → Mine 5 wq B v ks := fun {B v ks} hB hm => hm.of_heap fun r hr => by
    have hl := hm.lt hr
    refine hstay r hl.2 (fun e => ?_) (fun n hn e => by have := hx n hn; omega)
    subst e
    obtain ⟨cs, f, hh⟩ := ownsRow_own hm hr
    have := hh.symm.trans hnx
    injection this with this
    injection this with _ e _
    cases e
  refine ⟨SL.insert (nd := ⟨k, v, t⟩) (nw := ⟨nb, nx, kv, vv⟩) hs rfl hne ht hsh hqs (fun n hn => ?_) (fun g hg => ?_) h.arr ?_ h.new ((hrow hS.2.2.1 hkv).mono (Nat.le_trans hb hS.2.2.1)) ((hrow hS.2.2.2 hvv).mono (Nat.le_trans hb hS.2.2.2)) (fun n hn e => ?_) (fun n hn e => ?_) ⟨Nat.le_trans hb hS.2.1, Nat.le_trans hb hS.1⟩, fun g hg => ?_⟩
  · exact hstay _ (hs.foot_lt (Foot.b hn)) (by have := hF _ (Foot.b hn); omega) (fun n' hn' => hs.bx hn hn')
  · obtain ⟨n, hn, hr⟩ := hg
    have hf : Foot hd ms g := ⟨n, hn, .inr (.inr hr)⟩
    exact hstay _ (hs.foot_lt hf) (by have := hF _ hf; omega) (fun n' hn' => hs.row_ne hn hn' hr)
  · exact (hstay nb hnb.lt (blk_ne hnb hnx (by decide)) (fun n hn e => by have := hx n hn; omega)).trans hnb
  · have := hF _ (Foot.b hn)
    simp only at e
    omega
  · have := hF _ (Foot.x hn)
    simp only at e
    omega
  · obtain ⟨n, hn, hr⟩ := hg
    simp only [insM, List.mem_cons, List.mem_append] at hn
    rcases hn with rfl | hn | rfl | hn
    · exact .inl ⟨n, List.mem_cons_self .., hr⟩
    · exact .inl ⟨n, List.mem_cons_of_mem _ (List.mem_of_mem_take hn), hr⟩
    · right
      rcases hr with rfl | rfl | hr | hr
      · exact hS.2.1
      · exact hS.1
      · have := (hkv.lt hr).1; omega
      · have := (hvv.lt hr).1; omega
    · exact .inl ⟨n, List.mem_cons_of_mem _ (List.mem_of_mem_drop hn), hr⟩
end

end Go.Proofs.Ytkbjbjkgohkkjaa
