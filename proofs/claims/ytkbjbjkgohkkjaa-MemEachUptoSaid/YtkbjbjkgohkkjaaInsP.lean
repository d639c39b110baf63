/-
  An insertion into the document's three lists, in plain Lean. No program, no condition.
-/
import Derived.Test.YtkbjbjkgohkkjaaRIns
namespace Go.Proofs.Ytkbjbjkgohkkjaa
open Go.RowKit Go.Shelf

theorem ins_map {α : Type} (f : Nd → α) (ns : List Nd) (i : Nat) (nd : Nd) : (ins ns i nd).map f = (ns.map f).take i ++ (f nd :: (ns.map f).drop i) := by
  simp [ins, List.map_take, List.map_drop]
theorem setN_v (ns : List Nd) (i : Nat) (v : Key) : (setN ns i v).map Nd.v = (ns.map Nd.v).set i v := by
  apply List.ext_getElem?
  intro j
  simp only [setN, List.getElem?_map, List.getElem?_modify, List.getElem?_set]
  by_cases h : i = j
  · subst h
    cases h2 : ns[i]? with
    | none =>
      have := List.getElem?_eq_none_iff.1 h2
      simp
      omega
    | some d =>
      have := (List.getElem?_eq_some_iff.1 h2).1
      simp [this]
  · cases ns[j]? with
    | none => simp [h]
    | some d => simp [h]
/-- what was put is what the document says -/
theorem putN_is {ns : List Nd} {k v : Key} {t : Nat} : putN ns k v t = if isN ns k = true then setN ns (fnd ns k) v else ins ns (fnd ns k) ⟨k, v, t⟩ := by
  unfold putN isN
  by_cases h : (ns[fnd ns k]?).map Nd.k = some k
  · rw [if_pos h, if_pos (by rw [h]; simp)]
  · rw [if_neg h, if_neg (by simpa using h)]

end Go.Proofs.Ytkbjbjkgohkkjaa
