/-
  The walks of the filter's methods: New, May, Asked; and of what they call: slices.Clone, atomic.Int64's Add and Load.
-/
import Derived.Test.YtkkjfehnkhhafaaAwake
import Derived.Laws.LoneSync
import Derived.Laws.AppendOwnNone
import Derived.BigQuiet
namespace Go.Proofs.Ytkkjfehnkhhafaa
open Go.RowKit Go.Shelf

theorem add_any (b off : Nat) (x : Int) (w : World) (hc : w.cell? ⟨b, off, none⟩ = some (.int .i64 x)) (hz : w.frozen? ⟨b, off, none⟩ = false) (h0 : 0 ≤ x) (h1 : x ≤ 1000000000000000) :
    Calls Try.prog 23 #[.pointer (some ⟨b, off, none⟩), .int .i64 1] w fun e w' => e = .returned (.int .i64 (x + 1)) ∧ w' = w.setCell ⟨b, off, none⟩ (.int .i64 (x + 1)) := by
  have hadd := run_call_add (P := Try.prog) Try.func27 (by kernel_rfl) (by kernel_rfl) (by kernel_rfl) .i64 (by kernel_rfl) (y := 1) (s := x + 1) hc hz (by simp [go_sem, IntKind.wrap, IntKind.signed, IntKind.bits]; omega)
  go_enter Try.func23, Try.ntmps23
  go_wp2
  go_ret
  exact ⟨rfl, rfl⟩

theorem load_any (b off : Nat) (x : Int) (w : World) (hc : w.cell? ⟨b, off, none⟩ = some (.int .i64 x)) :
    Calls Try.prog 24 #[.pointer (some ⟨b, off, none⟩)] w fun e w' => e = .returned (.int .i64 x) ∧ w = w' := by
  have hl := run_call_load (P := Try.prog) Try.func28 (by kernel_rfl) (by kernel_rfl) (by kernel_rfl) .i64 (by kernel_rfl) hc
  go_enter Try.func24, Try.ntmps24
  go_wp2
  go_ret
  exact ⟨rfl, rfl⟩

/-- slices.Clone of a slice of bytes: the same bytes, in memory of its own (asked only where there is a byte) -/
def Cloned (w : World) (n : Nat) (ks : List UInt8) (e : Ending) (w' : World) : Prop :=
  ∃ A c, e = .returned (.slice A n c) ∧ (n = 0 ∨ ∃ g, A = some ⟨g, 0, none⟩ ∧ w.heap.size ≤ g ∧ g < w'.heap.size ∧ RowAt w' g (ks.map b8)) ∧ n ≤ c ∧ Below w.heap.size w w'

theorem run_eql_nil25 (w : World) (a : Option Addr) (n c n' c' : Nat) : (binOp .eql 25 (.slice a n c) (.slice none n' c')).run Try.prog w = .ok (.bool a.isNone) w := Lib.run_eql_slice_nil w _ _ a n c n' c' Try.underlying25

theorem run_nilb (w : World) : w.ownsRow (w.heap.size) 5 1 (.slice none 0 0) 0 [] := ⟨rfl, .inl ⟨rfl, rfl⟩⟩

set_option maxRecDepth 100000 in
set_option maxHeartbeats 1000000 in
theorem clone_any (ks : List UInt8) (A : Option Addr) (n c B : Nat) (w : World) (h : Bs w B A n c ks) (hB : B ≤ w.heap.size) (hn : n ≤ 140737488351232) :
    Calls Try.prog 22 #[.slice A n c] w (Cloned w n ks) := by
  have q := run_eql_nil25
  have hlen := hide h.len
  cases A with
  | none =>
    have hn0 : n = 0 := by
      rcases Nat.eq_zero_or_pos n with h0 | h0
      · exact h0
      · obtain ⟨b, off, e, _⟩ := h.at_ h0; cases e
    subst hn0
    go_enter Try.func22, Try.ntmps22
    go_wp2
    go_ret
    exact ⟨none, 0, rfl, .inl rfl, Nat.le_refl _, Below.refl _ _⟩
  | some a =>
    have hc : ∀ (w' : World), (∀ p : Addr, p.block < B → w'.cell? p = w.cell? p) → ∀ j u, (ks.map b8)[j]? = some u → w'.cell? (a.add j) = some u := by
      intro w' hw j u hj
      obtain ⟨b, off, e, hb, hcc⟩ := (Sl.row h) (by intro e; rw [e] at hj; cases hj)
      injection e with e
      subst e
      rw [Addr.add_lit, hw _ hb]
      exact hcc j u hj
    have hks : ∀ u ∈ ks.map b8, u.oneCell' = true := by intro u hu; obtain ⟨x, _, rfl⟩ := List.mem_map.1 hu; rfl
    have hkl : (ks.map b8).length = n * 1 := by rw [List.length_map, hlen.out, Nat.mul_one]
    have Hc := hide hc
    have Hks := hide hks
    have Hkl := hide hkl
    clear hc hks hkl
    obtain ⟨i0, hi, hz0, hz1, hz2⟩ := info_parts info5
    go_enter Try.func22, Try.ntmps22
    go_wp2_with (at_builtin; refine wpList_append_own _ rfl _ _ 25 rfl w.heap.size 5 i0 (.int .u8 0) 1 1 Try.underlying25 hi hz0 hz1 hz2 rfl (by decide) _ _ _ rfl (World.ownsRow_made w #[] 0 (Nat.le_refl _) (Nat.zero_le _) rfl) a n c (ks.map b8) rfl Hkl.out (Hc.out _ (fun p hp => World.cell?_alloc_lt _ _ _ (by omega))) Hks.out (by unfold maxLen; omega) (by omega) (by simp) ?_; intro v' w3 hown' hgrow _)
    clear hi hz0 hz1 hz2
    have hbl : Below w.heap.size w w3 := ((Below.refl _ w).alloc (Nat.le_refl _) _).grown hgrow (by simp) (by intro k hk; have hk' : w.heap.size = k := Option.some.inj hk; omega)
    simp only [Nat.zero_add, List.nil_append] at hown'
    go_wp2
    go_ret
    rcases Nat.eq_zero_or_pos n with h0 | h0
    · subst h0
      rcases hown'.2 with ⟨rfl, _⟩ | ⟨g, cap, cur, rfl, _, _, hc2, _⟩
      · exact ⟨none, 0, rfl, .inl rfl, Nat.le_refl _, hbl⟩
      · exact ⟨_, cap, rfl, .inl rfl, hc2, hbl⟩
    · obtain ⟨g, cp, rfl, hg, hnc, hrow⟩ := own_row hown' h0
      refine ⟨_, cp, rfl, .inr ⟨g, rfl, hg, ?_, hrow⟩, hnc, hbl⟩
      obtain ⟨g', cap', e, _, hlt⟩ := hown'.form h0
      injection e with e
      injection e with e
      injection e with e
      omega

/-- the filter's four cells -/
def Flt (w : World) (F : Nat) (A : Option Addr) (n c : Nat) (q r : Int) : Prop := Blk w F 47 #[.int .i64 1, .slice A n c, .int .i64 q, .int .i64 r]
/-- a new filter: its own copy of the bytes -/
def Newed (w : World) (n : Nat) (ks : List UInt8) (e : Ending) (w' : World) : Prop :=
  ∃ F A c, e = .returned (.pointer (some ⟨F, 0, none⟩)) ∧ w.heap.size ≤ F ∧ Flt w' F A n c 0 0 ∧ (n = 0 ∨ ∃ g, A = some ⟨g, 0, none⟩ ∧ w.heap.size ≤ g ∧ g < F ∧ RowAt w' g (ks.map b8)) ∧ n ≤ c ∧ Below w.heap.size w w'

set_option maxRecDepth 100000 in
set_option maxHeartbeats 1000000 in
theorem new_any (ks : List UInt8) (A : Option Addr) (n c B : Nat) (w : World) (h : Bs w B A n c ks) (hB : B ≤ w.heap.size) (hn : n ≤ 140737488351232) :
    Calls Try.prog 17 #[.slice A n c] w (Newed w n ks) := by
  go_enter Try.func17, Try.ntmps17
  go_wp2_with fail
  refine (clone_any ks A n c B w h hB hn).mono ?_
  rintro e w1 ⟨A1, c1, rfl, hr, hnc, hB1⟩
  go_wp2
  go_ret
  refine ⟨w1.heap.size, A1, c1, rfl, hB1.size, Blk.new w1 47 _, ?_, hnc, hB1.alloc hB1.size _⟩
  rcases hr with h0 | ⟨g, rfl, h1, h2, h3⟩
  · exact .inl h0
  · refine .inr ⟨g, rfl, h1, h2, fun j u hu => ?_⟩
    exact (World.cell?_alloc_lt _ _ _ h2).trans (h3 j u hu)

set_option maxRecDepth 100000 in
set_option maxHeartbeats 1000000 in
theorem flt_may (fs ks : List UInt8) (F : Nat) (A KA : Option Addr) (n c kn kc : Nat) (q r : Int) (w : World) (hF : Flt w F A n c q r) (hf : Bs w F A n c fs) (hk : Bs w F KA kn kc ks) (hn : n ≤ 16777217) (hq0 : 0 ≤ q) (hq1 : q ≤ 1000000000000000) (hr0 : 0 ≤ r) (hr1 : r ≤ 1000000000000000) :
    Calls Try.prog 18 #[.pointer (some ⟨F, 0, none⟩), .slice KA kn kc] w fun e w' => e = .returned (.bool (mayOf fs ks)) ∧ Flt w' F A n c (q + 1) (if mayOf fs ks then r else r + 1) ∧ Below F w w' := by
  have hlt := hF.lt
  have c0 : w.cell? ⟨F, 0, none⟩ = some (.int .i64 1) := hF.cell 0
  have cm := fun w1 (hB1 : Below F w w1) (hlt1 : F < w1.heap.size) => may_any fs ks A KA n c kn kc F F w1 (hf.below hB1) (by omega) (hk.below hB1) (by omega) hn
  have Cm := hide cm
  clear cm hf hk
  generalize mayOf fs ks = mm at *
  cases mm
  · go_enter Try.func18, Try.ntmps18
    go_wp2_with fail
    refine (add_any F 2 q w (hF.cell 2) (hF.frozen 2) hq0 hq1).mono ?_
    rintro e w1 ⟨rfl, rfl⟩
    have hF1 : Flt (w.setCell ⟨F, 2, none⟩ (.int .i64 (q + 1))) F A n c (q + 1) r := hF.put 2 _
    have hB1 : Below F w (w.setCell ⟨F, 2, none⟩ (.int .i64 (q + 1))) := (Below.refl F w).setCell (p := ⟨F, 2, none⟩) (Nat.le_refl _) _
    generalize w.setCell ⟨F, 2, none⟩ (.int .i64 (q + 1)) = w1 at *
    have c1 : w1.cell? ⟨F, 1, none⟩ = some (.slice A n c) := hF1.cell 1
    have hlt1 := hF1.lt
    go_wp2_with fail
    refine (Cm.out w1 hB1 hlt1).mono ?_
    rintro e w2 ⟨rfl, hB2⟩
    have hF2 := hF1.below hB2 hlt1
    have hB2' := hB1.trans (hB2.mono (by omega))
    go_wp2_with fail
    refine (add_any F 3 r w2 (hF2.cell 3) (hF2.frozen 3) hr0 hr1).mono ?_
    rintro e w3 ⟨rfl, rfl⟩
    go_wp2
    go_ret
    exact ⟨rfl, hF2.put 3 _, hB2'.setCell (p := ⟨F, 3, none⟩) (Nat.le_refl _) _⟩
  · go_enter Try.func18, Try.ntmps18
    go_wp2_with fail
    refine (add_any F 2 q w (hF.cell 2) (hF.frozen 2) hq0 hq1).mono ?_
    rintro e w1 ⟨rfl, rfl⟩
    have hF1 : Flt (w.setCell ⟨F, 2, none⟩ (.int .i64 (q + 1))) F A n c (q + 1) r := hF.put 2 _
    have hB1 : Below F w (w.setCell ⟨F, 2, none⟩ (.int .i64 (q + 1))) := (Below.refl F w).setCell (p := ⟨F, 2, none⟩) (Nat.le_refl _) _
    generalize w.setCell ⟨F, 2, none⟩ (.int .i64 (q + 1)) = w1 at *
    have c1 : w1.cell? ⟨F, 1, none⟩ = some (.slice A n c) := hF1.cell 1
    have hlt1 := hF1.lt
    go_wp2_with fail
    refine (Cm.out w1 hB1 hlt1).mono ?_
    rintro e w2 ⟨rfl, hB2⟩
    have hF2 := hF1.below hB2 hlt1
    have hB2' := hB1.trans (hB2.mono (by omega))
    go_wp2
    go_ret
    exact ⟨rfl, hF2, hB2'⟩

theorem nil_may (KA : Option Addr) (kn kc : Nat) (w : World) :
    Calls Try.prog 18 #[.pointer none, .slice KA kn kc] w fun e w' => e = .returned (.bool false) ∧ w = w' := by
  go_enter Try.func18, Try.ntmps18
  go_wp2
  go_ret
  exact ⟨rfl, rfl⟩

def Zro (w : World) (F : Nat) : Prop := Blk w F 47 #[.int .i64 0, .slice none 0 0, .int .i64 0, .int .i64 0]

theorem zero_may (F : Nat) (KA : Option Addr) (kn kc : Nat) (w : World) (hF : Zro w F) :
    Calls Try.prog 18 #[.pointer (some ⟨F, 0, none⟩), .slice KA kn kc] w fun e w' => e = .returned (.bool false) ∧ w = w' := by
  have c0 : w.cell? ⟨F, 0, none⟩ = some (.int .i64 0) := hF.cell 0
  go_enter Try.func18, Try.ntmps18
  go_wp2
  go_ret
  exact ⟨rfl, rfl⟩

theorem nil_asked (w : World) :
    Calls Try.prog 19 #[.pointer none] w fun e w' => e = .returned (.tuple #[.int .i64 0, .int .i64 0]) ∧ w = w' := by
  go_enter Try.func19, Try.ntmps19
  go_wp2
  go_ret2
  exact ⟨rfl, rfl⟩

theorem zero_asked (F : Nat) (w : World) (hF : Zro w F) :
    Calls Try.prog 19 #[.pointer (some ⟨F, 0, none⟩)] w fun e w' => e = .returned (.tuple #[.int .i64 0, .int .i64 0]) ∧ w = w' := by
  have c0 : w.cell? ⟨F, 0, none⟩ = some (.int .i64 0) := hF.cell 0
  go_enter Try.func19, Try.ntmps19
  go_wp2
  go_ret2
  exact ⟨rfl, rfl⟩

set_option maxRecDepth 100000 in
set_option maxHeartbeats 1000000 in
theorem flt_asked (F : Nat) (A : Option Addr) (n c : Nat) (q r : Int) (w : World) (hF : Flt w F A n c q r) :
    Calls Try.prog 19 #[.pointer (some ⟨F, 0, none⟩)] w fun e w' => e = .returned (.tuple #[.int .i64 q, .int .i64 r]) ∧ ∃ m, w' = w.drewN m := by
  have c0 : w.cell? ⟨F, 0, none⟩ = some (.int .i64 1) := hF.cell 0
  have c2 : w.cell? ⟨F, 2, none⟩ = some (.int .i64 q) := hF.cell 2
  have c3 : w.cell? ⟨F, 3, none⟩ = some (.int .i64 r) := hF.cell 3
  have l2 : ∀ k, Calls Try.prog 24 #[.pointer (some ⟨F, 2, none⟩)] (w.drewN k) fun e w' => e = .returned (.int .i64 q) ∧ ∃ m, w' = w.drewN m := fun k => (load_any F 2 q (w.drewN k) c2).mono fun e w' ⟨a, b⟩ => ⟨a, k, b.symm⟩
  have l3 : ∀ k, Calls Try.prog 24 #[.pointer (some ⟨F, 3, none⟩)] (w.drewN k) fun e w' => e = .returned (.int .i64 r) ∧ ∃ m, w' = w.drewN m := fun k => (load_any F 3 r (w.drewN k) c3).mono fun e w' ⟨a, b⟩ => ⟨a, k, b.symm⟩
  have L2 := hide l2
  have L3 := hide l3
  clear l2 l3
  go_enter Try.func19, Try.ntmps19
  go_wp2_with fail
  go_quiet (first | exact L2.out _ | exact L3.out _)
  go_wp2
  go_ret2
  exact ⟨rfl, nq, rfl⟩

end Go.Proofs.Ytkkjfehnkhhafaa
