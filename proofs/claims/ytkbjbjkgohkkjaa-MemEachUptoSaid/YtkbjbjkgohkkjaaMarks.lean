/-
  Marks of range-over-func loops that stand in a plain loop: they are all taken at the return. A block known whole. Bytes read as a string. They speak of no program. No condition.
-/
import Derived.Test.YtkbjbjkgohkkjaaWords
import Derived.RangeFuncNested
import Derived.RangeFuncLeaves
import Derived.RangeFuncBox
import Derived.Laws.BytesArg
namespace Go.Proofs.Ytkbjbjkgohkkjaa
open Go.RowKit

/-! ### a block known whole -/
def Blk (w : World) (g : Nat) (t : TypeId) (cs : Array Value) : Prop := w.heap[g]? = some (.cells cs t (0, 0))
section
variable {w w' : World} {g : Nat} {t : TypeId} {cs : Array Value}
theorem Blk.lt (h : Blk w g t cs) : g < w.heap.size := (Array.getElem?_eq_some_iff.1 h).1
theorem Blk.cell (h : Blk w g t cs) (i : Nat) : w.cell? ⟨g, i, none⟩ = cs[i]? := cell_of_row w g i cs t (0, 0) h
theorem Blk.frozen (h : Blk w g t cs) (i : Nat) : w.frozen? ⟨g, i, none⟩ = false := by
  unfold Blk at h
  simp [World.frozen?, h]
theorem Blk.new (w : World) (t : TypeId) (cs : Array Value) : Blk (w.alloc (.cells cs t)) w.heap.size t cs := heap_alloc_new w _
theorem Blk.drewN (h : Blk w g t cs) (n : Nat) : Blk (w.drewN n) g t cs := h
theorem Blk.alloc (h : Blk w g t cs) (o : Obj) : Blk (w.alloc o) g t cs := (Below.heap_alloc w o g h.lt).trans h
theorem Blk.put (h : Blk w g t cs) (i : Nat) (u : Value) : Blk (w.setCell ⟨g, i, none⟩ u) g t (cs.setIfInBounds i u) := by
  unfold Blk at h ⊢
  simp [World.setCell, Array.getElem?_modify, h]
theorem Blk.far (h : Blk w g t cs) {p : Addr} (hp : g ≠ p.block) (u : Value) : Blk (w.setCell p u) g t cs := (Below.heap_setCell w p u g hp).trans h
theorem Blk.below {B : Nat} (h : Blk w g t cs) (hb : Below B w w') (hg : g < B) : Blk w' g t cs := (hb.block g hg).trans h
theorem Blk.grown {row : Option Nat} (h : Blk w g t cs) (hb : w.grownBy w' row) (hg : some g ≠ row) : Blk w' g t cs := (hb.block g h.lt hg).trans h
theorem Blk.own {β : Type} (g : Nat) (t : TypeId) (f : β → Array Value) : Own (fun s W => Blk W g t (f s)) := fun s X Y row hs hg hrow => by
  refine Blk.grown hs hg (fun e => ?_)
  obtain ⟨o, ho, hc⟩ := hrow g e.symm
  rw [show X.heap[g]? = _ from hs] at ho; cases ho; cases hc
end

/-! ### a slice over a block that is known whole -/
theorem Sl.of_blk {w : World} {g : Nat} {t : TypeId} {xs : List Value} (h : Blk w g t xs.toArray) {n c : Nat} (hn : xs.length = n) (hc : n ≤ c) (hr : n ≤ 140737488351232) : Sl w w.heap.size (some ⟨g, 0, none⟩) n c xs :=
  ⟨hn, hc, hr, fun _ => ⟨g, 0, rfl, h.lt, fun j u hu => by rw [h.cell]; simpa using hu⟩⟩

/-! ### marks -/
def markOf (D : Nat) : Deferred := { target := .collected D, args := #[] }
/-- the marks' blocks are open, and none is met twice -/
structure Marks (w : World) (base : Nat) (Ds : List Nat) : Prop where
  nodup : Ds.Nodup
  open_ : ∀ D ∈ Ds, base ≤ D ∧ w.heap[D]? = some (.deferred (some []))
theorem Marks.nil (w : World) (base : Nat) : Marks w base [] := ⟨List.nodup_nil, fun _ h => by cases h⟩
theorem Marks.lt {w : World} {base : Nat} {Ds : List Nat} (h : Marks w base Ds) {D : Nat} (hD : D ∈ Ds) : D < w.heap.size := (Array.getElem?_eq_some_iff.1 (h.open_ D hD).2).1
theorem Marks.from_ {w w' : World} {base : Nat} {Ds : List Nat} (h : Marks w base Ds) (hk : ∀ D ∈ Ds, w'.heap[D]? = w.heap[D]?) : Marks w' base Ds :=
  ⟨h.nodup, fun D hD => ⟨(h.open_ D hD).1, (hk D hD).trans (h.open_ D hD).2⟩⟩
theorem Marks.below {w w' : World} {base B : Nat} {Ds : List Nat} (h : Marks w base Ds) (hb : Below B w w') (hB : w.heap.size ≤ B) : Marks w' base Ds :=
  h.from_ fun D hD => hb.block D (by have := h.lt hD; omega)
theorem Marks.setCell {w : World} {base : Nat} {Ds : List Nat} (h : Marks w base Ds) (p : Addr) (u : Value) : Marks (w.setCell p u) base Ds :=
  ⟨h.nodup, fun D hD => ⟨(h.open_ D hD).1, (KeepsOthers.setCell w p u).same D _ (h.open_ D hD).2 rfl⟩⟩
theorem Marks.cons {w : World} {base D : Nat} {Ds : List Nat} (h : Marks w base Ds) (hD : w.heap[D]? = some (.deferred (some []))) (hb : base ≤ D) (hn : D ∉ Ds) : Marks w base (D :: Ds) :=
  ⟨List.nodup_cons.2 ⟨hn, h.nodup⟩, fun D' hD' => by
    rcases List.mem_cons.1 hD' with rfl | h'
    · exact ⟨hb, hD⟩
    · exact h.open_ D' h'⟩
theorem marks_own {β : Type} (B base : Nat) (Ds : List Nat) (hlt : ∀ D ∈ Ds, D < B) : OwnFrom B (fun (_ : β) W => Marks W base Ds) := fun s W W' row hs hg hr =>
  hs.from_ fun D hD => hg.block D (hs.lt hD) (fun e => by have := (hr D e.symm).1; have := hlt D hD; omega)

/-- only blocks that are no cells, from B on, have turned -/
structure Shut (B : Nat) (w w' : World) : Prop where
  os : w'.os = w.os
  tape : w'.tape = w.tape
  output : w'.output = w.output
  size : w'.heap.size = w.heap.size
  cells : ∀ (k : Nat) (o : Obj), w.heap[k]? = some o → o.isCells = true → w'.heap[k]? = some o
  old : ∀ k, k < B → w'.heap[k]? = w.heap[k]?
theorem Shut.refl (B : Nat) (w : World) : Shut B w w := ⟨rfl, rfl, rfl, rfl, fun _ _ h _ => h, fun _ _ => rfl⟩
theorem Shut.trans {B : Nat} {a b c : World} (h : Shut B a b) (k : Shut B b c) : Shut B a c :=
  ⟨k.os.trans h.os, k.tape.trans h.tape, k.output.trans h.output, k.size.trans h.size, fun i o ho hc => k.cells i o (h.cells i o ho hc) hc, fun i hi => (k.old i hi).trans (h.old i hi)⟩
theorem Shut.put {B D : Nat} {w : World} {o : Obj} (hD : w.heap[D]? = some o) (ho : o.isCells = false) (hB : B ≤ D) (o' : Obj) : Shut B w (w.putObj D o') := by
  refine ⟨rfl, rfl, rfl, by simp, fun k x hx hc => ?_, fun k hk => World.putObj_heap_other (by omega)⟩
  by_cases e : k = D
  · subst e
    rw [hD] at hx; cases hx; rw [ho] at hc; cases hc
  · rw [World.putObj_heap_other e]; exact hx
theorem Shut.below {B : Nat} {a w w' : World} (h : Below B a w) (k : Shut B w w') : Below B a w' :=
  h.trans ⟨k.os, k.tape, k.output, by rw [k.size]; exact Nat.le_refl _, k.old⟩
theorem Shut.blk {B g : Nat} {w w' : World} {t : TypeId} {cs : Array Value} (h : Blk w g t cs) (k : Shut B w w') : Blk w' g t cs := k.cells g _ h rfl

theorem leaves_marks {F : Fence} {n : Nat} {P : Program} {fn : Func} {tmps : Array Value} {R : Ending → World → Prop} {base : Nat} : ∀ (Ds : List Nat) (w : World), Marks w base Ds →
    (∀ w', Shut base w w' → ∃ v, (results fn tmps).run P w' = .ok v w' ∧ R (.returned v) w') → LeavesInM F n P fn tmps R (Ds.map markOf) .returning w
  | [], w, _, h => h w (Shut.refl _ _)
  | D :: Ds, w, hm, h => by
    have hD := hm.open_ D (List.mem_cons_self ..)
    refine ⟨by simp, .inl ⟨D, _, rfl, run_takeDeferred hD.2, ?_⟩⟩
    have hs := Shut.put hD.2 rfl hD.1 (.deferred none)
    refine leaves_marks Ds _ ⟨(List.nodup_cons.1 hm.nodup).2, fun D' hD' => ?_⟩ (fun w' hw' => h w' (hs.trans hw'))
    have hne : D' ≠ D := fun e => by subst e; exact (List.nodup_cons.1 hm.nodup).1 hD'
    exact ⟨(hm.open_ D' (List.mem_cons_of_mem _ hD')).1, (World.putObj_heap_other hne).trans (hm.open_ D' (List.mem_cons_of_mem _ hD')).2⟩

/-! ### bytes as a string -/
theorem str_of_bytes (ks : List UInt8) : strOfNums (ks.map fun b => (b.toNat : Int)) = ⟨ks.toArray⟩ := by
  simp [strOfNums, Function.comp_def]
theorem run_str {P : Program} (src e dst : TypeId) (hs : P.underlying src = some (.slice e)) (he : P.underlying e = some (.int .u8)) (hd : P.underlying dst = some .string) {w : World} {B : Nat} {A : Option Addr} {n c : Nat} {ks : List UInt8} (h : Bs w B A n c ks) :
    (convert src dst (.slice A n c)).run P w = .ok (.string ⟨ks.toArray⟩) w := by
  rcases A with _ | ad
  · have hn : ks = [] := by
      rcases Nat.eq_zero_or_pos n with h0 | h0
      · exact List.eq_nil_of_length_eq_zero (by rw [h.len, h0])
      · obtain ⟨b, off, e, _⟩ := h.at_ h0
        cases e
    subst hn
    exact run_convert_bytes_nil w src e hs he n c dst hd
  · rcases Nat.eq_zero_or_pos n with h0 | h0
    · subst h0
      have hn : ks = [] := List.eq_nil_of_length_eq_zero h.len
      subst hn
      have hl : (loadCells ad 0).run P w = .ok (([] : List Int).map (Value.int .u8)).toArray w := run_loadCells_list (P := P) w ad [] (fun j v hj => by simp at hj)
      rw [run_convert_bytes_string w src dst e _ 0 c hs he hd, run_bytesToString w _ 0 c [] hl]
      rfl
    · obtain ⟨b, off, e', hb, hc⟩ := h.at_ h0
      cases e'
      rw [run_convert_bytes_arg w src e hs he b off n c (ks.map fun b => (b.toNat : Int)) (by simpa using h.len) (fun i hi => ?_) dst hd, str_of_bytes]
      rw [hc i (by rw [h.len]; exact hi)]
      simp [List.getD, List.getElem?_map, List.getElem?_eq_getElem (show i < ks.length by rw [h.len]; exact hi)]

end Go.Proofs.Ytkbjbjkgohkkjaa
