/-
  An argument of four bytes in an array, opened as the row's reading gives it. No condition.
-/
import Derived.Test.YtdnhpmdmkdgmpaaOpen
namespace Go.Proofs.Ytdnhpmdmkdgmpaa
open Go.ChangeShapes Go.WideShapes Go.ChangeAt Go.RowKit Go.Deep

section
variable {H : Type} {enc : TypeId × Value → H} {P : Program} {W : World} {base : Nat} {sp : Nat → Bool} {held : Bool}

theorem okWide_arr4 {t e : TypeId} (hu : P.underlying t = some (.array 4 e)) (hc : P.cellsOf t = 4) {r : Reach} {b0 : Nat} {v : Value} (h : Value.okWide P W r b0 t v) : ∃ xs : Array Value, v = .agg xs ∧ xs.size = 4 := by
  simp only [Value.okWide, hu] at h
  obtain ⟨cs, h1, h2, _⟩ := h
  exact ⟨cs, h1, by rw [h2, hc]⟩

theorem u8_of_trod {e : TypeId} (he : P.underlying e = some (.int .u8)) {m : Nat} {v : Value} {y : DataW H × List MemPlace} (h : DataW.trod enc P W base sp held m e [v] = some y) : ∃ b : UInt8, v = b8 b := by
  obtain ⟨a, ea, _, wa⟩ := DataW.trod_int he h
  have hbd : 0 ≤ a ∧ a ≤ 255 := by simpa [Lit.wf, IntKind.min, IntKind.max, IntKind.signed, IntKind.bits] using wa
  simp at ea
  refine ⟨UInt8.ofNat a.toNat, ?_⟩
  rw [ea, b8, UInt8.toNat_ofNat_of_lt' (show a.toNat < 256 by omega)]
  congr 1
  omega

theorem open_arr4 {t e : TypeId} (hu : P.underlying t = some (.array 4 e)) (he : P.underlying e = some (.int .u8)) (hc : P.cellsOf e = 1) {xs : Array Value} (hn : xs.size = 4) {fuel : Nat} {d : DataW H} {ps : List MemPlace}
    (hf : DataW.trod enc P W base sp held fuel t (Value.agg xs).cells.toList = some (d, ps)) : ∃ y0 y1 y2 y3 : UInt8, Value.agg xs = .agg #[b8 y0, b8 y1, b8 y2, b8 y3] := by
  obtain ⟨l, rfl⟩ : ∃ l : List Value, xs = l.toArray := ⟨xs.toList, by simp⟩
  simp at hn
  match l, hn with
  | [a, b, c, d'], _ =>
    cases fuel with
    | zero => simp [DataW.trod] at hf
    | succ m =>
      rw [DataW.trod_step] at hf
      unfold DataW.trodStep at hf
      simp only [hu, Value.cells, hc] at hf
      split at hf
      · simp only [Option.map_eq_some_iff] at hf
        obtain ⟨ys, hy, _⟩ := hf
        simp only [List.range, List.range.loop, List.mapM_cons, List.mapM_nil, bind, Option.bind_eq_some_iff] at hy
        obtain ⟨z0, h0, z1, ⟨w1, h1, w2, ⟨w3, h2, w4, ⟨w5, h3, _⟩, _⟩, _⟩, _⟩ := hy
        obtain ⟨y0, e0⟩ := u8_of_trod he (v := a) (by simpa using h0)
        obtain ⟨y1, e1⟩ := u8_of_trod he (v := b) (by simpa using h1)
        obtain ⟨y2, e2⟩ := u8_of_trod he (v := c) (by simpa using h2)
        obtain ⟨y3, e3⟩ := u8_of_trod he (v := d') (by simpa using h3)
        exact ⟨y0, y1, y2, y3, by rw [e0, e1, e2, e3]⟩
      · cases hf
end

end Go.Proofs.Ytdnhpmdmkdgmpaa
