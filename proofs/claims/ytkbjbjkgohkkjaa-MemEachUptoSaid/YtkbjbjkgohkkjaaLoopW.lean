/-
  A loop over an iterator that may itself write blocks of the caller's between the rounds ('It' says what it does); the body may end normally or leave the loop. No condition but what the law asks.
-/
import Derived.Test.YtkbjbjkgohkkjaaRound
namespace Go.Proofs.Ytkbjbjkgohkkjaa
open Go.RowKit Go.Shelf

/-- how a round's body may be left: i rounds are done then -/
def postW (B : Nat) (Kp : World → World → Prop) (I : Nat → World → Prop) (Ix : Code → Nat → World → Prop) (i : Nat) (W : World) : Exit → Act → World → Prop
  | .normal, _, W' => KeepsFrom B W W' ∧ Kp W W' ∧ I i W'
  | .ret, _, W' => KeepsFrom B W W' ∧ Ix .ret i W'
  | .exit id, _, W' => KeepsFrom B W W' ∧ Ix (.exit id) i W'
  | .goto t, _, W' => KeepsFrom B W W' ∧ Ix (.goto t) i W'
  | .panic _, _, _ => False
  | .outgrown, _, _ => False

theorem wpIn_rangeFunc_W {α : Type} {P : Program} {n : Nat} {g : Operand} {ps : Array Tmp} {assign body : Code} {Q : Exit → Act → World → Prop} {a : Act} {w : World}
    (h1 : 1 ≤ n) {gf : Nat} {lb : Array Value} (hg : a.eval g = .func (.func gf) #[] lb) (eg : ∀ args w, (callFunc gf args).run P w = .ok (.enter gf args) w)
    (N : Nat) (It Kp : World → World → Prop) (enc : Nat → α → Array Value) (Vals : Nat → World → α → Prop) (hsz : ∀ i x, (enc i x).size = ps.size)
    (hseq : ∀ (l : Nat) (J Jx : Nat → World → Prop) (W : World), Below w.heap.size w W → (∀ i A B, J i A → It A B → J i B) → (∀ i A B, Jx i A → It A B → Jx i B) →
      (∀ i A x, i < N → J i A → Vals i A x → YieldAt Fence.wide (n - 1 - 1) P l (enc i x) A fun e B => (e = .returned (.bool true) ∧ J (i + 1) B ∧ Kp A B) ∨ (e = .returned (.bool false) ∧ Jx (i + 1) B)) →
      J 0 W → CallsIn Fence.wide (n - 1) P gf (#[.func (.yield l) #[] #[]] ++ lb) W fun e B => (∃ v, e = .returned v) ∧ (J N B ∨ ∃ i, i ≤ N ∧ Jx i B))
    (hKt : ∀ {A B C : World}, Kp A B → Kp B C → Kp A C) (hKb : ∀ (W : World) (l : Nat) (o o' : Obj), w.heap.size ≤ l → W.heap[l]? = some o → o.isCells = false → Kp W (W.putObj l o'))
    (hIt : ∀ A B, It A B → ∀ (k : Nat) (o : Obj), w.heap.size ≤ k → A.heap[k]? = some o → o.isCells = false → B.heap[k]? = some o)
    (I : Nat → World → Prop) (Ix : Code → Nat → World → Prop) (hI : ∀ i A B, I i A → It A B → I i B) (hIx : ∀ c i A B, Ix c i A → It A B → Ix c i B)
    (hIp : ∀ (i : Nat) (W : World) (l : Nat) (o o' : Obj), I i W → w.heap.size ≤ l → W.heap[l]? = some o → o.isCells = false → I i (W.putObj l o'))
    (hIxp : ∀ (c : Code) (i : Nat) (W : World) (l : Nat) (o o' : Obj), Ix c i W → w.heap.size ≤ l → W.heap[l]? = some o → o.isCells = false → Ix c i (W.putObj l o'))
    (hVp : ∀ (i : Nat) (W : World) (x : α) (l : Nat) (o o' : Obj), Vals i W x → w.heap.size ≤ l → W.heap[l]? = some o → o.isCells = false → Vals i (W.putObj l o') x)
    (h0 : ∀ o o' : Obj, I 0 ((w.alloc o).alloc o')) (a₁ : Nat → α → Act)
    (hassign : ∀ (l i : Nat) (x : α) (W : World) (K : Act → World → Prop), K (a₁ i x) W →
      assign.wpIn (Fence.wide.inRound l) (n - 1 - 1) P (Exit.then K (fun _ _ _ => False)) { tmps := (ps.zip (enc i x)).foldl (fun t (p, v) => t.setIfInBounds p v) a.tmps, defers := [] } W)
    (hbody : ∀ (l i : Nat) (x : α) (W : World), i < N → I i W → Vals i W x → body.wpIn (Fence.wide.inRound l) (n - 1 - 1) P (postW w.heap.size Kp I Ix (i + 1) W) (a₁ i x) W)
    (hdone : ∀ (D : Nat) (W : World), w.heap.size ≤ D → I N W → W.heap[D]? = some (.deferred (some [])) → Q .normal { a with defers := { target := .collected D, args := #[] } :: a.defers } W)
    (hstop : ∀ (D : Nat) (c : Code) (i : Nat) (W : World), w.heap.size ≤ D → i ≤ N → Ix c i W → W.heap[D]? = some (.deferred (some [])) → c.wpIn Fence.wide n P Q { a with defers := { target := .collected D, args := #[] } :: a.defers } W) :
    (Code.rangeFunc g ps assign body).wpIn Fence.wide n P Q a w := by
  refine wpIn_rangeFunc ?_
  intro fn hfn
  rw [show Fence.wide.round = none from rfl]
  obtain ⟨rec, hrec⟩ : ∃ rec : LoopState → Option Code → Loop, rec = fun st pe => { state := st, pending := pe, fn, tmps := a.tmps, params := ps, assign, body, defers := w.heap.size } := ⟨_, rfl⟩
  obtain ⟨W1, hW1⟩ : ∃ W1, (w.alloc (.deferred (some []))).alloc (.loop (rec .ready none)) = W1 := ⟨_, rfl⟩
  have hL1 : W1.heap[w.heap.size + 1]? = some (.loop (rec .ready none)) := by
    rw [← hW1]; have := World.alloc_heap_new (w.alloc (.deferred (some []))) (.loop (rec .ready none)); rwa [World.size_alloc] at this
  have hK1 : W1.heap[w.heap.size]? = some (.deferred (some [])) := by
    rw [← hW1]; exact (Below.heap_alloc _ _ _ (by simp)).trans (World.alloc_heap_new w _)
  have hI1 : I 0 W1 := by rw [← hW1]; exact h0 _ _
  have hb1 : Below w.heap.size w W1 := by
    rw [← hW1]; exact ((Below.refl _ w).alloc (Nat.le_refl _) _).alloc (by simp) _
  refine ⟨w.heap.size + 1, [{ target := .collected w.heap.size, args := #[] }], W1, { target := .fn (.func gf) lb, args := #[.func (.yield (w.heap.size + 1)) #[] #[]] }, W1, gf,
    #[.func (.yield (w.heap.size + 1)) #[] #[]] ++ lb, W1, ?_, ?_, ?_, ?_, fun _ => h1, ?_⟩
  · rw [← hW1, hrec]; exact run_enterLoop_outer _ _ _ _ _
  · simp only [resolve, hg]
    simp [go_sem]
  · intro f' hf'
    trivial
  · simp [invoke, go_sem, eg]
  · refine (hseq (w.heap.size + 1)
      (fun i W => I i W ∧ W.heap[w.heap.size + 1]? = some (.loop (rec .ready none)) ∧ W.heap[w.heap.size]? = some (.deferred (some [])))
      (fun i W => ∃ c, Ix c i W ∧ W.heap[w.heap.size + 1]? = some (.loop (rec .done (some c))) ∧ W.heap[w.heap.size]? = some (.deferred (some [])))
      W1 hb1
      (fun i A B ⟨hi, hl, hk⟩ hg => ⟨hI i A B hi hg, hIt A B hg _ _ (by omega) hl rfl, hIt A B hg _ _ (Nat.le_refl _) hk rfl⟩)
      (fun i A B ⟨c, hi, hl, hk⟩ hg => ⟨c, hIx c i A B hi hg, hIt A B hg _ _ (by omega) hl rfl, hIt A B hg _ _ (Nat.le_refl _) hk rfl⟩)
      ?_ ⟨hI1, hL1, hK1⟩).mono ?_
    · rintro i W x hiN ⟨hi, hl, hk⟩ hv
      have hlt : w.heap.size + 1 < W.heap.size := (Array.getElem?_eq_some_iff.1 hl).1
      have hy := run_yield (P := P) (args := enc i x) hl (by rw [hrec]; exact hsz i x)
      rw [hrec] at hy
      refine ⟨fn, _, assign, body, hy, roundIn_of_wpIn hfn (hassign _ i x W _ ⟨_, run_beginRound hl (by rw [hrec]), ?_⟩)⟩
      have hl2 : (W.putObj (w.heap.size + 1) (.loop { rec .ready none with state := .busy })).heap[w.heap.size + 1]? = some (.loop { rec .ready none with state := .busy }) := World.putObj_heap_same hlt
      have hk2 : (W.putObj (w.heap.size + 1) (.loop { rec .ready none with state := .busy })).heap[w.heap.size]? = some (.deferred (some [])) := (World.putObj_heap_other (by omega)).trans hk
      have hw2 : Kp W (W.putObj (w.heap.size + 1) (.loop { rec .ready none with state := .busy })) := hKb _ _ _ _ (by omega) hl rfl
      refine wpIn_mono (hbody _ i x _ hiN (hIp i _ _ _ _ hi (by omega) hl rfl) (hVp i _ x _ _ _ hv (by omega) hl rfl)) ?_
      have fin : ∀ (jump : Option Code) (W3 : World), KeepsFrom w.heap.size (W.putObj (w.heap.size + 1) (.loop { rec .ready none with state := .busy })) W3 →
          (Instr.endRound (w.heap.size + 1) jump).run P W3 = .ok (.bool jump.isNone) (W3.putObj (w.heap.size + 1) (.loop (rec (if jump.isNone then .ready else .done) jump))) ∧
          W3.heap[w.heap.size + 1]? = some (.loop { rec .ready none with state := .busy }) ∧
          (W3.putObj (w.heap.size + 1) (.loop (rec (if jump.isNone then .ready else .done) jump))).heap[w.heap.size + 1]? = some (.loop (rec (if jump.isNone then .ready else .done) jump)) ∧
          (W3.putObj (w.heap.size + 1) (.loop (rec (if jump.isNone then .ready else .done) jump))).heap[w.heap.size]? = some (.deferred (some [])) := fun jump W3 hk3 => by
        have hl3 := hk3.same _ _ (by omega) hl2 rfl
        have := run_endRound (P := P) jump hl3
        rw [hrec] at this ⊢
        exact ⟨this, by rw [hrec] at hl3; exact hl3, World.putObj_heap_same (Array.getElem?_eq_some_iff.1 hl3).1, (World.putObj_heap_other (by omega)).trans (hk3.same _ _ (Nat.le_refl _) hk2 rfl)⟩
      rintro e a3 W3 hp
      cases e with
      | normal =>
        obtain ⟨hk3, hkp3, hi3⟩ := hp
        obtain ⟨hr, hl3, hl4, hk4⟩ := fin none W3 hk3
        exact ⟨_, _, hr, .inl ⟨rfl, ⟨hIp _ _ _ _ _ hi3 (by omega) hl3 rfl, hl4, hk4⟩, hKt (hKt hw2 hkp3) (hKb _ _ _ _ (by omega) hl3 rfl)⟩⟩
      | ret =>
        obtain ⟨hk3, hi3⟩ := hp
        obtain ⟨hr, hl3, hl4, hk4⟩ := fin (some .ret) W3 hk3
        exact ⟨_, _, hr, .inr ⟨rfl, .ret, hIxp _ _ _ _ _ _ hi3 (by omega) hl3 rfl, hl4, hk4⟩⟩
      | exit id =>
        obtain ⟨hk3, hi3⟩ := hp
        obtain ⟨hr, hl3, hl4, hk4⟩ := fin (some (.exit id)) W3 hk3
        exact ⟨_, _, hr, .inr ⟨rfl, .exit id, hIxp _ _ _ _ _ _ hi3 (by omega) hl3 rfl, hl4, hk4⟩⟩
      | goto t =>
        obtain ⟨hk3, hi3⟩ := hp
        obtain ⟨hr, hl3, hl4, hk4⟩ := fin (some (.goto t)) W3 hk3
        exact ⟨_, _, hr, .inr ⟨rfl, .goto t, hIxp _ _ _ _ _ _ hi3 (by omega) hl3 rfl, hl4, hk4⟩⟩
      | panic ch => exact hp.elim
      | outgrown => exact hp.elim
    · rintro e W2 ⟨⟨v, rfl⟩, (⟨hi, hl, hk⟩ | ⟨i, hiN, c, hi, hl, hk⟩)⟩
      · exact ⟨none, _, by have := run_endLoop (P := P) hl (by rw [hrec]; simp); rw [hrec] at this; exact this, hdone _ _ (Nat.le_refl _) (hIp _ _ _ _ _ hi (by omega) hl rfl) ((World.putObj_heap_other (by omega)).trans hk)⟩
      · exact ⟨some c, _, by have := run_endLoop (P := P) hl (by rw [hrec]; simp); rw [hrec] at this; exact this, hstop _ c i _ (Nat.le_refl _) hiN (hIxp _ _ _ _ _ _ hi (by omega) hl rfl) ((World.putObj_heap_other (by omega)).trans hk)⟩

/-- .. whose body leaves it at once (a break), or ends normally: both ways go on behind it -/
theorem wpIn_rangeFunc_B {α : Type} {P : Program} {n : Nat} {g : Operand} {ps : Array Tmp} {assign body : Code} {Q : Exit → Act → World → Prop} {a : Act} {w : World} (id : Nat)
    (h1 : 1 ≤ n) {gf : Nat} {lb : Array Value} (hg : a.eval g = .func (.func gf) #[] lb) (eg : ∀ args w, (callFunc gf args).run P w = .ok (.enter gf args) w)
    (N : Nat) (It Kp : World → World → Prop) (enc : Nat → α → Array Value) (Vals : Nat → World → α → Prop) (hsz : ∀ i x, (enc i x).size = ps.size)
    (hseq : ∀ (l : Nat) (J Jx : Nat → World → Prop) (W : World), Below w.heap.size w W → (∀ i A B, J i A → It A B → J i B) → (∀ i A B, Jx i A → It A B → Jx i B) →
      (∀ i A x, i < N → J i A → Vals i A x → YieldAt Fence.wide (n - 1 - 1) P l (enc i x) A fun e B => (e = .returned (.bool true) ∧ J (i + 1) B ∧ Kp A B) ∨ (e = .returned (.bool false) ∧ Jx (i + 1) B)) →
      J 0 W → CallsIn Fence.wide (n - 1) P gf (#[.func (.yield l) #[] #[]] ++ lb) W fun e B => (∃ v, e = .returned v) ∧ (J N B ∨ ∃ i, i ≤ N ∧ Jx i B))
    (hKt : ∀ {A B C : World}, Kp A B → Kp B C → Kp A C) (hKb : ∀ (W : World) (l : Nat) (o o' : Obj), w.heap.size ≤ l → W.heap[l]? = some o → o.isCells = false → Kp W (W.putObj l o'))
    (hIt : ∀ A B, It A B → ∀ (k : Nat) (o : Obj), w.heap.size ≤ k → A.heap[k]? = some o → o.isCells = false → B.heap[k]? = some o)
    (Z : World → Prop) (hI : ∀ A B, Z A → It A B → Z B)
    (hIp : ∀ (W : World) (l : Nat) (o o' : Obj), Z W → w.heap.size ≤ l → W.heap[l]? = some o → o.isCells = false → Z (W.putObj l o'))
    (hVp : ∀ (i : Nat) (W : World) (x : α) (l : Nat) (o o' : Obj), Vals i W x → w.heap.size ≤ l → W.heap[l]? = some o → o.isCells = false → Vals i (W.putObj l o') x)
    (h0 : ∀ o o' : Obj, Z ((w.alloc o).alloc o')) (a₁ : Nat → α → Act)
    (hassign : ∀ (l i : Nat) (x : α) (W : World) (K : Act → World → Prop), K (a₁ i x) W →
      assign.wpIn (Fence.wide.inRound l) (n - 1 - 1) P (Exit.then K (fun _ _ _ => False)) { tmps := (ps.zip (enc i x)).foldl (fun t (p, v) => t.setIfInBounds p v) a.tmps, defers := [] } W)
    (hbody : ∀ (l i : Nat) (x : α) (W : World), i < N → Z W → Vals i W x → body.wpIn (Fence.wide.inRound l) (n - 1 - 1) P (postW w.heap.size Kp (fun _ => Z) (fun c _ W => c = .exit id ∧ Z W) (i + 1) W) (a₁ i x) W)
    (hexit : ∀ (a : Act) (W : World), Q .normal a W → (Code.exit id).wpIn Fence.wide n P Q a W)
    (hdone : ∀ (D : Nat) (W : World), w.heap.size ≤ D → Z W → W.heap[D]? = some (.deferred (some [])) → Q .normal { a with defers := { target := .collected D, args := #[] } :: a.defers } W) :
    (Code.rangeFunc g ps assign body).wpIn Fence.wide n P Q a w :=
  wpIn_rangeFunc_W h1 hg eg N It Kp enc Vals hsz hseq hKt hKb hIt (fun _ => Z) (fun c _ W => c = .exit id ∧ Z W) (fun _ => hI) (fun _ _ A B ⟨h1, h2⟩ h3 => ⟨h1, hI A B h2 h3⟩) (fun _ => hIp)
    (fun _ _ W l o o' ⟨h1, h2⟩ h3 h4 h5 => ⟨h1, hIp W l o o' h2 h3 h4 h5⟩) hVp h0 a₁ hassign hbody hdone
    (fun D c i W hD _ hx hK => by obtain ⟨rfl, hz⟩ := hx; exact hexit _ _ (hdone D W hD hz hK))

/-! ### a region that draws its order, where the function may be any (no round): walked as in a plain function -/
theorem upon_wide {n : Nat} {P : Program} {o : Oper} {a : Act} {next next' : Act → World → Prop} {Q : Exit → Act → World → Prop} (hn : ∀ a w, next a w → next' a w) :
    ∀ r : Result Next, o.upon P a next Q r → o.uponIn Fence.wide n P a next' Q r
  | .ok (.value v) w', h => hn _ _ h
  | .ok .skip w', h => hn _ _ h
  | .ok (.defer d) w', h => hn _ _ h
  | .ok (.enter f args) w', h => by
    refine ⟨(fun hd => by cases hd), callsIn_wide.2 (Calls.mono h ?_)⟩
    intro e w'' he
    cases e with
    | returned v => exact hn _ _ he
    | panicked c => exact he
    | outgrown => exact he
  | .ok (.row row args) w', h => by
    refine ⟨(fun hd => by cases hd), ?_⟩
    intro b cs hr
    obtain ⟨v, w'', hR, hs⟩ := h b cs
    exact ⟨v, w'', hn _ _ hR, stepsIn_wide.2 hs⟩
  | .ok (.round l' f tmps assign body) w', h => h.elim
  | .halt (.panic v) w', h => h
theorem ops_wide {n : Nat} {P : Program} {ops : Array Oper} {R : Exit → Act → World → Prop} (hnd : noDefer ops = true) (hR : ¬ LetsOut R) :
    ∀ (L : List Nat) (a : Act) (w : World), wpOps P ops R L a w → wpOpsIn Fence.wide n P ops R L a w
  | [], a, w, h => h
  | i :: rest, a, w, h => by
    unfold wpOps at h
    unfold wpOpsIn
    cases ho : ops[i]? with
    | none =>
      rw [ho] at h
      exact ops_wide hnd hR rest a w h
    | some o =>
      rw [ho] at h
      simp only at h ⊢
      by_cases hw : Region.wanted o (yielded ops a.tmps) = true
      · rw [if_pos hw] at h ⊢
        rcases h with h | ⟨_, h⟩
        · refine ⟨fun _ _ => trivial, ?_⟩
          rw [Oper.semAt_plain _ _ _ (noDefer_at hnd ho)]
          exact upon_wide (ops_wide hnd hR rest) _ h
        · exact absurd h hR
      · rw [if_neg hw] at h ⊢
        exact ⟨fun _ _ => trivial, ops_wide hnd hR rest _ _ h⟩
theorem region_wide_to {n id : Nat} {P : Program} {ops : Array Oper} {S : World → Prop} {Q : Exit → Act → World → Prop} {a : Act} {w : World} (hm : P.follows .mixedOrders = true) (hnd : noDefer ops = true)
    (hS : S w.drew) (h : S w.drew → wpAnyH P .any ops (fun e a' w' => e = .normal ∧ Q .normal a' w') S ops.size (Array.replicate ops.size false) a w.drew) : (Code.region id ops true).wpIn Fence.wide n P Q a w :=
  wpIn_mono (wpIn_region_draw fun t => ops_wide hnd (R := fun e a' w' => e = .normal ∧ Q .normal a' w') (by rintro ⟨_, _, hh, _⟩; cases hh) _ _ _ (by
    simp only [Region.schedule, hm, Bool.true_or, if_true]
    exact wpAny_sound ops.size t _ a _ (wpAny_of_held _ _ _ _ (h hS)))) (fun e a' w' ⟨h1, h2⟩ => by subst h1; exact h2)

end Go.Proofs.Ytkbjbjkgohkkjaa
