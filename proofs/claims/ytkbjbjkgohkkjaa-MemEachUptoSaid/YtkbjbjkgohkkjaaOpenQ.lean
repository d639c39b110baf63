/-
  An argument of two slices of bytes in a struct, opened as the row's reading gives it. No condition.
-/
import Derived.Test.YtkbjbjkgohkkjaaOpen
namespace Go.Proofs.Ytkbjbjkgohkkjaa
open Go.ChangeShapes Go.WideShapes Go.ChangeAt Go.RowKit Go.Deep

section
variable {H : Type} {enc : TypeId × Value → H} {P : Program} {W : World} {base : Nat} {sp : Nat → Bool} {held : Bool}

theorem okWide_two {t : TypeId} {fs : Array Field} (hu : P.underlying t = some (.struct fs)) (hc : P.cellsOf t = 2) {r : Reach} {b0 : Nat} {v : Value} (h : Value.okWide P W r b0 t v) : ∃ xs : Array Value, v = .agg xs ∧ xs.size = 2 := by
  simp only [Value.okWide, hu] at h
  obtain ⟨cs, h1, h2, _⟩ := h
  exact ⟨cs, h1, by rw [h2, hc]⟩

theorem slice_of_trod {q e : TypeId} (hq : P.underlying q = some (.slice e)) (he : P.underlying e = some (.int .u8)) (hc : P.cellsOf e = 1) {m : Nat} {v : Value} {y : DataW H × List MemPlace} (h : DataW.trod enc P W base sp held m q [v] = some y) : ∃ A n c, v = .slice A n c := by
  rcases open_ints hq he hc h with ⟨hcs, _⟩ | ⟨a, len, cap, zs, hcs, _⟩
  · simp at hcs; exact ⟨_, _, _, hcs⟩
  · simp at hcs; exact ⟨_, _, _, hcs⟩

theorem open_two {t q e : TypeId} {f0 f1 : Field} (hu : P.underlying t = some (.struct #[f0, f1])) (h0 : f0.type = q ∧ f0.offset = 0) (h1 : f1.type = q ∧ f1.offset = 1) (cq : P.cellsOf q = 1) (hq : P.underlying q = some (.slice e)) (he : P.underlying e = some (.int .u8)) (hc : P.cellsOf e = 1)
    {xs : Array Value} (hn : xs.size = 2) {fuel : Nat} {x : DataW H × List MemPlace}
    (hf : DataW.trod enc P W base sp held fuel t (Value.agg xs).cells.toList = some x) : ∃ A n c A2 n2 c2, Value.agg xs = .agg #[.slice A n c, .slice A2 n2 c2] := by
  obtain ⟨l, rfl⟩ : ∃ l : List Value, xs = l.toArray := ⟨xs.toList, by simp⟩
  simp at hn
  match l, hn with
  | [a, b], _ =>
    obtain ⟨y0, y1, m, _, _, e0, e1⟩ := trod_struct2 hu hf
    rw [h0.1, h0.2, cq] at e0
    rw [h1.1, h1.2, cq] at e1
    obtain ⟨A, n, c, ea⟩ := slice_of_trod hq he hc (v := a) (by simpa [Value.cells] using e0)
    obtain ⟨A2, n2, c2, eb⟩ := slice_of_trod hq he hc (v := b) (by simpa [Value.cells] using e1)
    exact ⟨A, n, c, A2, n2, c2, by rw [ea, eb]⟩
end

end Go.Proofs.Ytkbjbjkgohkkjaa
