/-
  The walks of bytes.Clone, codec.Field, codec.New, and of the reader's is, Err, At, Done. Condition: the bytes read as such.
-/
import Derived.Test.YtdlbhppoknbnlaaReadU
namespace Go.Proofs.Ytdlbhppoknbnlaa
open Go.RowKit

theorem run_eql_nil24 (w : World) (a : Option Addr) (n c n' c' : Nat) : (binOp .eql 24 (.slice a n c) (.slice none n' c')).run Try.prog w = .ok (.bool a.isNone) w := Lib.run_eql_slice_nil w _ _ a n c n' c' Try.underlying24

theorem bs_none {w : World} {B n c : Nat} {ks : List UInt8} (h : Bs w B none n c ks) : n = 0 ∧ ks = [] := by
  have hl := h.len
  rcases Nat.eq_zero_or_pos n with h0 | h0
  · subst h0; exact ⟨rfl, List.eq_nil_of_length_eq_zero hl⟩
  · obtain ⟨b, off, e, _⟩ := h.at_ h0; cases e

set_option maxRecDepth 100000 in
set_option maxHeartbeats 1000000 in
theorem clone_any (ks : List UInt8) (A : Option Addr) (n c B : Nat) (w : World) (h : Bs w B A n c ks) (hB : B ≤ w.heap.size) :
    Calls Try.prog 59 #[.slice A n c] w (Gives w ks) := by
  have q := run_eql_nil24
  have hr := h.reach
  cases A with
  | none =>
    obtain ⟨rfl, rfl⟩ := bs_none h
    go_enter Try.func59, Try.ntmps59
    go_wp2
    go_ret
    exact ⟨_, rfl, Mine.nil _ _ _, Below.refl _ _⟩
  | some a =>
    obtain ⟨v', w3, hrun, hm, hg, _⟩ := append_mine (P := Try.prog) 24 Try.underlying24 info5 (Mine.made 5 w (Nat.le_refl _)) (by simp) (h.alloc hB (.cells #[] 5)) (by simpa using hr)
    have hBl : Below w.heap.size w w3 := ((Below.refl _ w).alloc (Nat.le_refl _) _).trans ((Mine.made 5 w (Nat.le_refl _)).grown hg (Nat.le_refl _) (by simp))
    go_enter Try.func59, Try.ntmps59
    go_wp2_with (at_builtin; refine wpList_append_run rfl _ _ 24 rfl _ _ _ rfl rfl hrun ?_)
    go_wp2
    go_ret
    exact ⟨v', rfl, hm, hBl⟩

/-! ### Field -/
def fieldE (n : Nat) : Int := if 1048576 < n then 2 else 0
def fieldB (ks : List UInt8) : List UInt8 := if 1048576 < ks.length then [] else uvar ks.length ++ ks
/-- bytes and an error -/
def GivesE (w : World) (er : Int) (ks : List UInt8) (e : Ending) (w' : World) : Prop := ∃ v, e = .returned (.tuple #[v, .int .i64 er]) ∧ Mine 5 w' w.heap.size v ks ∧ Below w.heap.size w w'

set_option maxRecDepth 100000 in
set_option maxHeartbeats 1000000 in
theorem field_any (ks : List UInt8) (A : Option Addr) (n c B : Nat) (w : World) (h : Bs w B A n c ks) (hB : B ≤ w.heap.size) :
    Calls Try.prog 19 #[.slice A n c] w (GivesE w (fieldE n) (fieldB ks)) := by
  have hl := h.len
  by_cases hn : 1048576 < n
  · have e1 := hide (show fieldE n = 2 by simp [fieldE, hn])
    have e2 := hide (show fieldB ks = [] by simp [fieldB, hl, hn])
    go_enter Try.func19, Try.ntmps19
    go_wp2
    go_ret2
    exact ⟨.slice none 0 0, by rw [e1.out]; rfl, by rw [e2.out]; exact Mine.nil _ _ _, Below.refl _ _⟩
  · have e1 := hide (show fieldE n = 0 by simp [fieldE, hn])
    have e2 := hide (show fieldB ks = uvar n ++ ks by simp [fieldB, hl, hn])
    have hle := uvar_len10 n (by omega)
    go_enter Try.func19, Try.ntmps19
    go_wp2_with fail
    refine (uint_any n (by omega) w).mono ?_
    rintro e w1 ⟨v, rfl, hm, hB1⟩
    have hs := hB1.size
    obtain ⟨v', w3, hrun, hm3, hg, _⟩ := append_mine (P := Try.prog) 24 Try.underlying24 info5 hm hs ((h.more hB).below hB1) (by omega)
    have hB3 := hB1.trans (hm.grown hg (Nat.le_refl _) hs)
    have hr := Mine.bs hm (by omega)
    obtain ⟨MA, mc, rfl, _⟩ := hr
    clear hm
    go_wp2_with (at_builtin; refine wpList_append_run rfl _ _ 24 rfl _ _ _ rfl rfl hrun ?_)
    go_wp2
    go_ret2
    exact ⟨v', by rw [e1.out]; rfl, by rw [e2.out]; exact hm3, hB3⟩

/-! ### the reader -/
/-- the reader's four cells: its bytes, where it stands, its error -/
def Rdr (w : World) (R : Nat) (A : Option Addr) (n c : Nat) (at_ er : Int) : Prop := Blk w R 98 #[.int .i64 1, .slice A n c, .int .i64 at_, .int .i64 er]
/-- a new reader: a copy of the bytes, in a block below the reader's -/
def Fresh (w : World) (ks : List UInt8) (e : Ending) (w' : World) : Prop :=
  ∃ R A c, e = .returned (.pointer (some ⟨R, 0, none⟩)) ∧ w.heap.size ≤ R ∧ Rdr w' R A ks.length c 0 0 ∧ Bs w' R A ks.length c ks ∧ Below w.heap.size w w'

set_option maxRecDepth 100000 in
set_option maxHeartbeats 1000000 in
theorem new_any (ks : List UInt8) (A : Option Addr) (n c B : Nat) (w : World) (h : Bs w B A n c ks) (hB : B ≤ w.heap.size) :
    Calls Try.prog 22 #[.slice A n c] w (Fresh w ks) := by
  have hr := h.reach
  have hl := hide h.len
  go_enter Try.func22, Try.ntmps22
  go_wp2_with fail
  refine (clone_any ks A n c B w h hB).mono ?_
  rintro e w1 ⟨v, rfl, hm, hB1⟩
  obtain ⟨MA, mc, rfl, hb, _⟩ := Mine.bs hm (by rw [hl.out]; exact hr)
  clear hm
  go_wp2
  go_ret
  exact ⟨w1.heap.size, MA, mc, rfl, hB1.size, Blk.new w1 98 _, hb.alloc (Nat.le_refl _) _, hB1.alloc hB1.size _⟩

theorem is_any (R : Nat) (A : Option Addr) (n c : Nat) (at_ er : Int) (w : World) (h : Rdr w R A n c at_ er) :
    Calls Try.prog 68 #[.pointer (some ⟨R, 0, none⟩)] w fun e w' => e = .returned (.bool true) ∧ w = w' := by
  have c0 : w.cell? ⟨R, 0, none⟩ = some (.int .i64 1) := h.cell 0
  go_enter Try.func68, Try.ntmps68
  go_wp2
  go_ret
  exact ⟨rfl, rfl⟩

theorem err_any (R : Nat) (A : Option Addr) (n c : Nat) (at_ er : Int) (w : World) (h : Rdr w R A n c at_ er) :
    Calls Try.prog 34 #[.pointer (some ⟨R, 0, none⟩)] w fun e w' => e = .returned (.int .i64 er) ∧ w = w' := by
  have c3 : w.cell? ⟨R, 3, none⟩ = some (.int .i64 er) := h.cell 3
  go_enter Try.func34, Try.ntmps34
  go_wp2_with fail
  refine (is_any R A n c at_ er w h).mono ?_
  rintro e w1 ⟨rfl, rfl⟩
  go_wp2
  go_ret
  exact ⟨rfl, rfl⟩

theorem at_any (R : Nat) (A : Option Addr) (n c : Nat) (at_ er : Int) (w : World) (h : Rdr w R A n c at_ er) :
    Calls Try.prog 33 #[.pointer (some ⟨R, 0, none⟩)] w fun e w' => e = .returned (.int .i64 at_) ∧ w = w' := by
  have c2 : w.cell? ⟨R, 2, none⟩ = some (.int .i64 at_) := h.cell 2
  go_enter Try.func33, Try.ntmps33
  go_wp2_with fail
  refine (is_any R A n c at_ er w h).mono ?_
  rintro e w1 ⟨rfl, rfl⟩
  go_wp2
  go_ret
  exact ⟨rfl, rfl⟩

def doneOf (n : Nat) (at_ er : Int) : Int := if er ≠ 0 then er else if at_ < n then 22 else 0

set_option maxRecDepth 100000 in
set_option maxHeartbeats 1000000 in
theorem done_any (R : Nat) (A : Option Addr) (n c : Nat) (at_ er : Int) (w : World) (h : Rdr w R A n c at_ er) :
    Calls Try.prog 35 #[.pointer (some ⟨R, 0, none⟩)] w fun e w' => e = .returned (.int .i64 (doneOf n at_ er)) ∧ ∃ m, w' = w.drewN m := by
  have c1 : w.cell? ⟨R, 1, none⟩ = some (.slice A n c) := h.cell 1
  have c2 : w.cell? ⟨R, 2, none⟩ = some (.int .i64 at_) := h.cell 2
  go_enter Try.func35, Try.ntmps35
  go_wp2_with fail
  refine (err_any R A n c at_ er w h).mono ?_
  rintro e w1 ⟨rfl, rfl⟩
  by_cases h0 : er = 0
  · subst h0
    by_cases hlt : at_ < n
    · have e1 := hide (show doneOf n at_ 0 = 22 by simp [doneOf, hlt])
      go_wp2
      go_quiet (fail)
      go_wp2
      go_ret
      exact ⟨by rw [e1.out]; rfl, nq, rfl⟩
    · have e1 := hide (show doneOf n at_ 0 = 0 by simp [doneOf, hlt])
      go_wp2
      go_quiet (fail)
      go_wp2
      go_ret
      exact ⟨by rw [e1.out]; rfl, nq, rfl⟩
  · have e1 := hide (show doneOf n at_ er = er by simp [doneOf, h0])
    go_wp2
    go_ret
    exact ⟨by rw [e1.out]; rfl, 0, rfl⟩

end Go.Proofs.Ytdlbhppoknbnlaa
