/-
  A region that draws its order, within a round of a range over a function: walked as outside. Condition: it defers nothing.
-/
import Derived.Test.YtdlbhppoknbnlaaLoop
import Derived.Deep.RegionHeld3
namespace Go.Proofs.Ytdlbhppoknbnlaa
open Go.RowKit Go.Shelf

theorem upon_round {l n : Nat} {P : Program} {o : Oper} {a : Act} {next next' : Act → World → Prop} {Q : Exit → Act → World → Prop} (hn : ∀ a w, next a w → next' a w) :
    ∀ r : Result Next, o.upon P a next Q r → o.uponIn (Fence.wide.inRound l) n P a next' Q r
  | .ok (.value v) w', h => hn _ _ h
  | .ok .skip w', h => hn _ _ h
  | .ok (.defer d) w', h => hn _ _ h
  | .ok (.enter f args) w', h => by
    refine ⟨(fun hd => by cases hd), CallsIn.inRound l (callsIn_wide.2 (Calls.mono h ?_))⟩
    intro e w'' he
    cases e with
    | returned v => exact hn _ _ he
    | panicked c => exact he
    | outgrown => exact he
  | .ok (.row row args) w', h => by
    refine ⟨(fun hd => by cases hd), ?_⟩
    intro b cs hr
    obtain ⟨v, w'', hR, hs⟩ := h b cs
    exact ⟨v, w'', hn _ _ hR, stepsIn_wide.2 hs⟩
  | .ok (.round l' f tmps assign body) w', h => h.elim
  | .halt (.panic v) w', h => h

/-- no operation defers -/
def noDefer (ops : Array Oper) : Bool := ops.toList.all fun o => match o.op with | .defer _ => false | _ => true
theorem noDefer_at {ops : Array Oper} (h : noDefer ops = true) {i : Nat} {o : Oper} (ho : ops[i]? = some o) : ∀ c, o.op ≠ .defer c := fun c e => by
  have hm : o ∈ ops.toList := by
    obtain ⟨hi, rfl⟩ := Array.getElem?_eq_some_iff.1 ho
    exact Array.getElem_mem_toList hi
  have := List.all_eq_true.1 h o hm
  rw [e] at this
  cases this

theorem ops_round {l n : Nat} {P : Program} {ops : Array Oper} {R : Exit → Act → World → Prop} (hnd : noDefer ops = true) (hR : ¬ LetsOut R) :
    ∀ (L : List Nat) (a : Act) (w : World), wpOps P ops R L a w → wpOpsIn (Fence.wide.inRound l) n P ops R L a w
  | [], a, w, h => h
  | i :: rest, a, w, h => by
    unfold wpOps at h
    unfold wpOpsIn
    cases ho : ops[i]? with
    | none =>
      rw [ho] at h
      exact ops_round hnd hR rest a w h
    | some o =>
      rw [ho] at h
      simp only at h ⊢
      by_cases hw : Region.wanted o (yielded ops a.tmps) = true
      · rw [if_pos hw] at h ⊢
        rcases h with h | ⟨_, h⟩
        · refine ⟨fun _ _ => trivial, ?_⟩
          rw [Oper.semAt_plain _ _ _ (noDefer_at hnd ho)]
          exact upon_round (ops_round hnd hR rest) _ h
        · exact absurd h hR
      · rw [if_neg hw] at h ⊢
        exact ⟨fun _ _ => trivial, ops_round hnd hR rest _ _ h⟩

theorem region_round {l n id : Nat} {P : Program} {ops : Array Oper} {S : World → Prop} {R : Exit → Act → World → Prop} {a : Act} {w : World} (hm : P.follows .mixedOrders = true) (hnd : noDefer ops = true) (hR : ¬ LetsOut R)
    (hS : S w.drew) (h : S w.drew → wpAnyH P .any ops R S ops.size (Array.replicate ops.size false) a w.drew) : (Code.region id ops true).wpIn (Fence.wide.inRound l) n P R a w :=
  wpIn_region_draw fun t => ops_round hnd hR _ _ _ (by
    simp only [Region.schedule, hm, Bool.true_or, if_true]
    exact wpAny_sound ops.size t _ a _ (wpAny_of_held _ _ _ _ (h hS)))

/-- .. one that goes through normally -/
theorem region_round_to {l n id : Nat} {P : Program} {ops : Array Oper} {S : World → Prop} {Q : Exit → Act → World → Prop} {a : Act} {w : World} (hm : P.follows .mixedOrders = true) (hnd : noDefer ops = true)
    (hS : S w.drew) (h : S w.drew → wpAnyH P .any ops (fun e a' w' => e = .normal ∧ Q .normal a' w') S ops.size (Array.replicate ops.size false) a w.drew) : (Code.region id ops true).wpIn (Fence.wide.inRound l) n P Q a w :=
  wpIn_mono (region_round hm hnd (by rintro ⟨_, _, hh, _⟩; cases hh) hS h) (fun e a' w' ⟨h1, h2⟩ => by subst h1; exact h2)

end Go.Proofs.Ytdlbhppoknbnlaa
