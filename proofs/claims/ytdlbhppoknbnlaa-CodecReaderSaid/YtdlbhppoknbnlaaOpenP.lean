/-
  An argument opened: a slice of structs of two numbers, as the row's reading gives it. No condition.
-/
import Derived.Test.YtdlbhppoknbnlaaOpen
import Derived.Test.YtdlbhppoknbnlaaReader
import Derived.Deep.SlicePairs
import Derived.ChangeArms
namespace Go.Proofs.Ytdlbhppoknbnlaa
open Go.ChangeShapes Go.WideShapes Go.ChangeAt Go.RowKit Go.Deep

section
variable {H : Type} {enc : TypeId × Value → H} {P : Program} {W : World} {base : Nat} {held : Bool}

theorem open_pairs {t e : TypeId} {f0 f1 : Field} (ht : P.underlying t = some (.slice e)) (he : P.underlying e = some (.struct #[f0, f1]))
    (ce : P.cellsOf e = 2) (be : P.bytesOf e = 16) (o0 : f0.offset = 0) (o1 : f1.offset = 1) (c0 : P.cellsOf f0.type = 1) (c1 : P.cellsOf f1.type = 1)
    (u0 : P.underlying f0.type = some (.int .i64)) (u1 : P.underlying f1.type = some (.int .i64)) {fuel : Nat} {V : Value} {d : DataW H} {p : List MemPlace}
    (h : DataW.trod enc P W base (fun _ => true) held fuel t [V] = some (d, p)) (hz : ∀ n ∈ d.weights P t, n ≤ reachBytes) : ∃ A n c rs, V = .slice A n c ∧ Rs W W.heap.size A n c rs := by
  rcases open_slice_pairs ht he ce o0 o1 c0 c1 h with ⟨hcs, _⟩ | ⟨a, len, cap, m, n, V0, V1, D0, D1, P0, P1, hcs, _, hl, hm, hmm, hx, hel⟩
  · simp at hcs
    subst hcs
    exact ⟨none, 0, 0, [], rfl, ⟨rfl, Nat.le_refl _, by omega, fun h => absurd rfl h, fun p hp => by cases hp⟩⟩
  · simp at hcs hx
    subst hcs
    obtain ⟨rfl, _⟩ := hx
    simp only [if_true] at hmm
    subst hmm
    have hlen : len ≤ 8796093022208 := by
      have := hz (((List.range len).map fun i => DataW.agg [D0 i, D1 i]).length + ((List.range (m - len)).map fun j => DataW.agg [D0 (len + j), D1 (len + j)]).length |> (· * 16)) (by simp [DataW.weights, ht, be])
      simp [reachBytes] at this
      omega
    have hrow : ∀ i, i < len → ∃ q : Int × Int, V0 i = .int .i64 q.1 ∧ V1 i = .int .i64 q.2 ∧ (-9223372036854775808 ≤ q.2 ∧ q.2 ≤ 9223372036854775807) := fun i hi => by
      obtain ⟨_, _, h2, h3⟩ := hel i (by omega)
      obtain ⟨z0, e0, _, w0⟩ := DataW.trod_int u0 h2
      obtain ⟨z1, e1, _, w1⟩ := DataW.trod_int u1 h3
      simp at e0 e1
      refine ⟨(z0, z1), e0, e1, ?_⟩
      simpa [Lit.wf, IntKind.min, IntKind.max, IntKind.signed, IntKind.bits] using w1
    obtain ⟨QQ, hQQ⟩ := choose_lt (α := Int × Int) (p := fun i q => V0 i = .int .i64 q.1 ∧ V1 i = .int .i64 q.2 ∧ (-9223372036854775808 ≤ q.2 ∧ q.2 ≤ 9223372036854775807)) hrow
    refine ⟨some a, len, m, (List.range len).map QQ, rfl, ⟨by simp, hl, by omega, fun hne => ?_, fun q hq => ?_⟩⟩
    · have hpos : 0 < len := by
        rcases Nat.eq_zero_or_pos len with h0 | h0
        · subst h0; exact absurd (by simp) hne
        · exact h0
      obtain ⟨b, off, spot⟩ := a
      have hspot : spot = none := by simpa [Addr.add] using World.cell?_spot (hel 0 (by omega)).1
      subst hspot
      refine ⟨b, off, rfl, ?_, fun j u hu => ?_⟩
      · have := lt_of_cell (hel 0 (by omega)).1
        simpa [Addr.add] using this
      · have hj : j < len := by
          rcases Nat.lt_or_ge j len with h' | h'
          · exact h'
          · rw [List.getElem?_eq_none (by simp; omega)] at hu; cases hu
        simp only [List.getElem?_map, List.getElem?_range hj, Option.map_some, Option.some.injEq] at hu
        subst hu
        obtain ⟨x0, x1, _⟩ := hel j (by omega)
        rw [← (hQQ j hj).1, ← (hQQ j hj).2.1]
        rw [Addr.add_lit] at x0 x1
        exact ⟨x0, x1⟩
    · obtain ⟨j, hj, rfl⟩ := List.mem_map.1 hq
      exact (hQQ j (List.mem_range.1 hj)).2.2
end

end Go.Proofs.Ytdlbhppoknbnlaa
