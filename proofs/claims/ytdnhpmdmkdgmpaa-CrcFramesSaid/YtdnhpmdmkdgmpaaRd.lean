/-
  The walks of codec.read at its type, and of its closure: what a thrower read is answered, or what it threw. (Printed by gen_rd.py.)
-/
import Derived.Test.YtdnhpmdmkdgmpaaGuard
import Derived.BigQuiet
namespace Go.Proofs.Ytdnhpmdmkdgmpaa
open Go.RowKit

/-- a property of what was read that four cells from H on, and draws, don't touch -/
structure Lasts (H : Nat) (V : Value → Int → World → Prop) : Prop where
  set : ∀ v n W p u, H ≤ p.block → p.block < H + 1 + 1 + 1 + 1 → V v n W → V v n (W.setCell p u)
  drew : ∀ v n W k, V v n W → V v n (W.drewN k)
/-- what a thrower does -/
def Throws (w : World) (V : Value → Int → World → Prop) (E : Int → Prop) (e : Ending) (w' : World) : Prop :=
  Below w.heap.size w w' ∧ ((∃ v n, e = .returned (.tuple #[v, .int .i64 n]) ∧ V v n w') ∨ ∃ c, e = .panicked (failure c) ∧ E c)
/-- what read answers then -/
def Reads (w : World) (zero : Value) (V : Value → Int → World → Prop) (E : Int → Prop) (e : Ending) (w' : World) : Prop :=
  Below w.heap.size w w' ∧ ((∃ v n, e = .returned (.tuple #[v, .int .i64 n, .int .i64 0]) ∧ V v n w') ∨ ∃ c, E c ∧ e = .returned (.tuple #[zero, .int .i64 0, .int .i64 c]))
/-- behind read's closure: H the block of the function's value -/
def Closed (w : World) (H : Nat) (tf t : TypeId) (f : Value) (V : Value → Int → World → Prop) (E : Int → Prop) (e : Ending) (w' : World) : Prop :=
  Below H w w' ∧ Blk w' H tf #[f] ∧ Blk w' (H + 1 + 1 + 1) 46 #[.int .i64 0] ∧
    ((∃ v n, e = .returned (.tuple #[]) ∧ Blk w' (H + 1) t #[v] ∧ Blk w' (H + 1 + 1) 3 #[.int .i64 n] ∧ V v n w') ∨ ∃ c, e = .panicked (failure c) ∧ E c)


set_option maxRecDepth 100000 in
set_option maxHeartbeats 1000000 in
theorem clos_u (G : FuncId) (cap : Array Value) (H : Nat) (V : Value → Int → World → Prop) (E : Int → Prop) (w : World) (v0 : Value) (n0 : Int)
    (hcf : ∀ (args : Array Value) (w : World), (callFunc G args).run Try.prog w = .ok (.enter G args) w)
    (hG : Calls Try.prog G cap w (Throws w V E)) (hV : Lasts H V) (hsh : ∀ v n W, V v n W → ∃ x, v = .int .u64 x)
    (b0 : Blk w H 91 #[.func (.func G) #[] cap]) (b1 : Blk w (H + 1) 71 #[v0]) (b2 : Blk w (H + 1 + 1) 3 #[.int .i64 n0]) (b3 : Blk w (H + 1 + 1 + 1) 46 #[.int .i64 0]) :
    Calls Try.prog 44 #[.pointer (some ⟨H, 0, none⟩), .pointer (some ⟨H + 1, 0, none⟩), .pointer (some ⟨H + 1 + 1, 0, none⟩)] w (Closed w H 91 71 (.func (.func G) #[] cap) V E) := by
  have c0 : w.cell? ⟨H, 0, none⟩ = some (.func (.func G) #[] cap) := b0.cell 0
  have l3 := b3.lt
  go_enter Try.func44, Try.ntmps44
  go_wp2_with fail
  refine hG.mono ?_
  rintro e w1 ⟨hB, h⟩
  have d0 := b0.below hB (by omega)
  have d1 := b1.below hB (by omega)
  have d2 := b2.below hB (by omega)
  have d3 := b3.below hB l3
  have hs := hB.size
  rcases h with ⟨v, n, rfl, hv⟩ | ⟨c, rfl, hE⟩
  · obtain ⟨x, rfl⟩ := hsh _ _ _ hv
    have c1 : w1.cell? ⟨H + 1, 0, none⟩ = some v0 := d1.cell 0
    have z1 := d1.frozen 0
    have c2 : w1.cell? ⟨H + 1 + 1, 0, none⟩ = some (.int .i64 n0) := d2.cell 0
    have z2 := d2.frozen 0
    have e2 : (w1.setCell ⟨H + 1, 0, none⟩ (.int .u64 x)).cell? ⟨H + 1 + 1, 0, none⟩ = some (.int .i64 n0) := (d2.far (p := ⟨H + 1, 0, none⟩) (by simp <;> omega) (.int .u64 x)).cell 0
    have y2 : (w1.setCell ⟨H + 1, 0, none⟩ (.int .u64 x)).frozen? ⟨H + 1 + 1, 0, none⟩ = false := (d2.far (p := ⟨H + 1, 0, none⟩) (by simp <;> omega) (.int .u64 x)).frozen 0
    go_wp2
    go_end0
    refine ⟨((hB.mono (by omega)).setCell (p := ⟨H + 1, 0, none⟩) (by simp <;> omega) _).setCell (p := ⟨H + 1 + 1, 0, none⟩) (by simp <;> omega) _, (d0.far (p := ⟨H + 1, 0, none⟩) (by simp <;> omega) _).far (p := ⟨H + 1 + 1, 0, none⟩) (by simp <;> omega) _, (d3.far (p := ⟨H + 1, 0, none⟩) (by simp <;> omega) _).far (p := ⟨H + 1 + 1, 0, none⟩) (by simp <;> omega) _,
      .inl ⟨_, n, rfl, (d1.put 0 (.int .u64 x)).far (p := ⟨H + 1 + 1, 0, none⟩) (by simp <;> omega) _, (d2.far (p := ⟨H + 1, 0, none⟩) (by simp <;> omega) _).put 0 _, hV.set _ _ _ ⟨H + 1 + 1, 0, none⟩ _ (by simp <;> omega) (by simp <;> omega) (hV.set _ _ _ ⟨H + 1, 0, none⟩ _ (by simp <;> omega) (by simp <;> omega) hv)⟩⟩
  · refine ⟨rfl, ?_⟩
    exact ⟨hB.mono (by omega), d0, d3, .inr ⟨c, rfl, hE⟩⟩

set_option maxRecDepth 100000 in
set_option maxHeartbeats 1000000 in
theorem read_u (G : FuncId) (cap : Array Value) (V : Value → Int → World → Prop) (E : Int → Prop) (w : World)
    (hcf : ∀ (args : Array Value) (w : World), (callFunc G args).run Try.prog w = .ok (.enter G args) w) (hE : ∀ c, E c → ¬ c = 0)
    (hG : ∀ w', Below w.heap.size w w' → w.heap.size + 1 + 1 + 1 + 1 ≤ w'.heap.size → Calls Try.prog G cap w' (Throws w' V E)) (hV : Lasts w.heap.size V) (hsh : ∀ v n W, V v n W → ∃ x, v = .int .u64 x) :
    Calls Try.prog 37 #[.func (.func G) #[] cap] w (Reads w (.int .u64 0) V E) := by
  have hmf : ∀ (fn : Fn) (first cap : Array Value) (w : World), (Instr.makeFunc fn first cap).run Try.prog w = .ok (.func fn first cap) w := fun _ _ _ _ => rfl
  go_enter Try.func37, Try.ntmps37
  go_wp2_with fail
  generalize hW3 : ((w.alloc (.cells #[.func (.func G) #[] cap] 91)).alloc (.cells #[.int .u64 0] 71)).alloc (.cells #[.int .i64 0] 3) = W3
  have x0 : Blk W3 w.heap.size 91 #[.func (.func G) #[] cap] := by rw [← hW3]; exact ((Blk.new w 91 _).alloc _).alloc _
  have x1 : Blk W3 (w.heap.size + 1) 71 #[.int .u64 0] := by
    rw [← hW3]
    have := Blk.new (w.alloc (.cells #[.func (.func G) #[] cap] 91)) 71 #[.int .u64 0]
    rw [World.size_alloc] at this
    exact this.alloc _
  have x2 : Blk W3 (w.heap.size + 1 + 1) 3 #[.int .i64 0] := by
    rw [← hW3]
    have := Blk.new ((w.alloc (.cells #[.func (.func G) #[] cap] 91)).alloc (.cells #[.int .u64 0] 71)) 3 #[.int .i64 0]
    rw [World.size_alloc, World.size_alloc] at this
    exact this
  have hs3 : W3.heap.size = w.heap.size + 1 + 1 + 1 := by rw [← hW3]; simp
  have hB3 : Below w.heap.size w W3 := by
    rw [← hW3]
    exact (((Below.refl _ w).alloc (Nat.le_refl _) _).alloc (by simp <;> omega) _).alloc (by simp <;> omega) _
  clear hW3
  have hw4 : Below w.heap.size w (W3.alloc (.cells #[.int .i64 0] 46)) := hB3.alloc (by omega) _
  refine (guarded_any 44 _ W3 (Closed (W3.alloc (.cells #[.int .i64 0] 46)) w.heap.size 91 71 (.func (.func G) #[] cap) V E)
    (clos_u G cap w.heap.size V E _ (.int .u64 0) 0 hcf (hG _ hw4 (by rw [World.size_alloc, hs3]; exact Nat.le_refl _)) hV hsh (x0.alloc _) (x1.alloc _) (x2.alloc _) (by have := Blk.new W3 46 #[.int .i64 0]; rw [hs3] at this; exact this))
    (fun args w => by simp [callFunc, Try.func44, Try.f44, go_sem]) ?_).mono ?_
  · rintro e w' ⟨_, _, b3, h⟩
    refine ⟨?_, by rw [hs3]; exact b3⟩
    rcases h with ⟨_, _, rfl, _⟩ | ⟨c, rfl, _⟩
    · exact .inl rfl
    · exact .inr ⟨c, rfl⟩
  · rintro e w' ⟨w0, h⟩
    rcases h with ⟨⟨hB, b0, b3, h⟩, rfl, u, rfl⟩ | ⟨c, ⟨hB, b0, b3, h⟩, rfl, u, rfl⟩
    · rcases h with ⟨v, n, _, b1, b2, hv⟩ | ⟨c, e, _⟩
      · rw [hs3]
        have b1' := b1.far (p := ⟨w.heap.size + 1 + 1 + 1, 0, none⟩) (by simp <;> omega) u
        have b2' := b2.far (p := ⟨w.heap.size + 1 + 1 + 1, 0, none⟩) (by simp <;> omega) u
        have c1 := b1'.cell 0
        have c2 := b2'.cell 0
        have hv' := hV.set _ _ _ ⟨w.heap.size + 1 + 1 + 1, 0, none⟩ u (by simp <;> omega) (by simp <;> omega) hv
        have hBf : Below w.heap.size w (w0.setCell ⟨w.heap.size + 1 + 1 + 1, 0, none⟩ u) := (hw4.trans hB).setCell (p := ⟨w.heap.size + 1 + 1 + 1, 0, none⟩) (by simp <;> omega) u
        go_wp2
        go_quiet (fail)
        go_wp2
        go_ret3
        exact ⟨Below.drewN' hBf nq, .inl ⟨v, n, rfl, hV.drew _ _ _ nq hv'⟩⟩
      · cases e
    · rcases h with ⟨_, _, e, _⟩ | ⟨c', e, hc'⟩
      · cases e
      · have hc0 := hE c' hc'
        obtain rfl : c = c' := by simpa [failure] using e
        rw [hs3]
        go_wp2
        go_ret3
        exact ⟨(hw4.trans hB).setCell (p := ⟨w.heap.size + 1 + 1 + 1, 0, none⟩) (by simp <;> omega) u, .inr ⟨c, hc', rfl⟩⟩

end Go.Proofs.Ytdnhpmdmkdgmpaa
