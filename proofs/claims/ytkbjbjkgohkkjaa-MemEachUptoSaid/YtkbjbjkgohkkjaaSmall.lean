/-
  The walks of the small functions: is, the atomic numbers, bytes.Clone, bytes.Equal, bytes.Compare. Condition: slices read as bytes.
-/
import Derived.Test.YtkbjbjkgohkkjaaRep
import Derived.Laws.LoneSync
import Derived.Laws.Pointers
import Derived.Laws.Entries
import Derived.Lib.BytesEntry
import Derived.Laws.Externs
namespace Go.Proofs.Ytkbjbjkgohkkjaa
open Go.RowKit Go.Shelf

theorem info5 : (Try.prog.info? 5).map (fun i => (i.zero, i.size, i.bytes)) = some (some (.int .u8 0), 1, 1) := by kernel_rfl
theorem info3 : (Try.prog.info? 3).map (fun i => (i.zero, i.size, i.bytes)) = some (some (.int .i64 0), 1, 8) := by kernel_rfl

/-- the table's cells: the towers as drawn, the head, the height, how many, how large, steps, the Once's, sealed -/
def tc (tv : Value) (H : Nat) (high many size steps dn st sd : Int) : Array Value :=
  #[.int .i64 1, tv, .pointer (some ⟨H, 0, none⟩), .int .i64 high, .int .i64 many, .int .i64 size, .int .i64 steps, .int .u32 dn, .int .i32 st, .int .u32 0, .int .u32 sd]

/-- nobody made this table -/
def NoTb (w : World) (v : Value) : Prop := v = .pointer none ∨ ∃ g, v = .pointer (some ⟨g, 0, none⟩) ∧ w.cell? ⟨g, 0, none⟩ = some (.int .i64 0)
theorem NoTb.ptr {w : World} {v : Value} (h : NoTb w v) : ∃ p, v = .pointer p := by
  rcases h with rfl | ⟨g, rfl, _⟩ <;> exact ⟨_, rfl⟩

theorem is_any (T : Nat) (w : World) (h : w.cell? ⟨T, 0, none⟩ = some (.int .i64 1)) :
    Calls Try.prog 29 #[.pointer (some ⟨T, 0, none⟩)] w fun e w' => e = .returned (.bool true) ∧ w = w' := by
  go_enter Try.func29, Try.ntmps29
  go_wp2
  go_ret
  exact ⟨rfl, rfl⟩
theorem is_none (v : Value) (w : World) (h : NoTb w v) :
    Calls Try.prog 29 #[v] w fun e w' => e = .returned (.bool false) ∧ w = w' := by
  rcases h with rfl | ⟨g, rfl, h⟩
  · go_enter Try.func29, Try.ntmps29
    go_wp2
    go_ret
    exact ⟨rfl, rfl⟩
  · go_enter Try.func29, Try.ntmps29
    go_wp2
    go_ret
    exact ⟨rfl, rfl⟩

theorem wrap64_small (x : Int) (h0 : -9223372036854775808 ≤ x) (h1 : x ≤ 9223372036854775807) : wrap64 x = x := by unfold wrap64; omega

theorem add64_any (T i : Nat) (x y : Int) (w : World) (h : w.cell? ⟨T, i, none⟩ = some (.int .i64 x)) (hz : w.frozen? ⟨T, i, none⟩ = false) (h0 : -9223372036854775808 ≤ x + y) (h1 : x + y ≤ 9223372036854775807) :
    Calls Try.prog 35 #[.pointer (some ⟨T, i, none⟩), .int .i64 y] w fun e w' => e = .returned (.int .i64 (x + y)) ∧ w' = w.setCell ⟨T, i, none⟩ (.int .i64 (x + y)) := by
  have hw : IntKind.i64.wrap (x + y) = x + y := by simp [IntKind.wrap, IntKind.bits, IntKind.signed]; omega
  have hadd := run_call_add (P := Try.prog) Try.func49 (by kernel_rfl) (by kernel_rfl) (by kernel_rfl) .i64 (by kernel_rfl) (y := y) (s := x + y) h hz (by simp [go_sem, hw])
  go_enter Try.func35, Try.ntmps35
  go_wp2
  go_ret
  exact ⟨rfl, rfl⟩
theorem load64_any (T i : Nat) (x : Int) (w : World) (h : w.cell? ⟨T, i, none⟩ = some (.int .i64 x)) :
    Calls Try.prog 36 #[.pointer (some ⟨T, i, none⟩)] w fun e w' => e = .returned (.int .i64 x) ∧ w = w' := by
  have hl := run_call_load (P := Try.prog) Try.func50 (by kernel_rfl) (by kernel_rfl) (by kernel_rfl) .i64 (by kernel_rfl) h
  go_enter Try.func36, Try.ntmps36
  go_wp2
  go_ret
  exact ⟨rfl, rfl⟩
theorem loadb_any (T i : Nat) (x : Int) (w : World) (h : w.cell? ⟨T, i, none⟩ = some (.int .u32 x)) :
    Calls Try.prog 34 #[.pointer (some ⟨T, i, none⟩)] w fun e w' => e = .returned (.bool (x != 0)) ∧ w = w' := by
  have hl := run_call_load (P := Try.prog) Try.func48 (by kernel_rfl) (by kernel_rfl) (by kernel_rfl) .u32 (by kernel_rfl) h
  go_enter Try.func34, Try.ntmps34
  go_wp2
  go_ret
  exact ⟨rfl, rfl⟩

/-! ### bytes -/
/-- bytes in new memory of the call's own -/
def Gives (w : World) (ks : List UInt8) (e : Ending) (w' : World) : Prop := ∃ v, e = .returned v ∧ Mine 5 w' w.heap.size v ks ∧ Below w.heap.size w w'
theorem run_eql_nil22 (w : World) (a : Option Addr) (n c n' c' : Nat) : (binOp .eql 22 (.slice a n c) (.slice none n' c')).run Try.prog w = .ok (.bool a.isNone) w := Lib.run_eql_slice_nil w _ _ a n c n' c' Try.underlying22
theorem bs_none {w : World} {B n c : Nat} {ks : List UInt8} (h : Bs w B none n c ks) : n = 0 ∧ ks = [] := by
  have hl := h.len
  rcases Nat.eq_zero_or_pos n with h0 | h0
  · subst h0; exact ⟨rfl, List.eq_nil_of_length_eq_zero hl⟩
  · obtain ⟨b, off, e, _⟩ := h.at_ h0; cases e

set_option maxRecDepth 100000 in
set_option maxHeartbeats 1000000 in
theorem clone_any (ks : List UInt8) (A : Option Addr) (n c B : Nat) (w : World) (h : Bs w B A n c ks) (hB : B ≤ w.heap.size) :
    Calls Try.prog 32 #[.slice A n c] w (Gives w ks) := by
  have q := run_eql_nil22
  have hr := h.reach
  cases A with
  | none =>
    obtain ⟨rfl, rfl⟩ := bs_none h
    go_enter Try.func32, Try.ntmps32
    go_wp2
    go_ret
    exact ⟨_, rfl, Mine.nil _ _ _, Below.refl _ _⟩
  | some a =>
    obtain ⟨v', w3, hrun, hm, hg, _⟩ := append_mine (P := Try.prog) 22 Try.underlying22 info5 (Mine.made 5 w (Nat.le_refl _)) (by simp) (h.alloc hB (.cells #[] 5)) (by simpa using hr)
    have hBl : Below w.heap.size w w3 := ((Below.refl _ w).alloc (Nat.le_refl _) _).trans ((Mine.made 5 w (Nat.le_refl _)).grown hg (Nat.le_refl _) (by simp))
    go_enter Try.func32, Try.ntmps32
    go_wp2_with (at_builtin; refine wpList_append_run rfl _ _ 22 rfl _ _ _ rfl rfl hrun ?_)
    go_wp2
    go_ret
    exact ⟨v', rfl, hm, hBl⟩

/-- a slice's bytes as a string, at a world -/
abbrev StrAt (A : Option Addr) (L c : Nat) (ks : List UInt8) (W : World) : Prop := (convert 22 9 (.slice A L c)).run Try.prog W = .ok (.string ⟨ks.toArray⟩) W
theorem strAt {w : World} {B : Nat} {A : Option Addr} {n c : Nat} {ks : List UInt8} (h : Bs w B A n c ks) : StrAt A n c ks w := run_str (P := Try.prog) 22 5 9 Try.underlying22 Try.underlying5 Try.underlying9 h

theorem equal_any (ks ls : List UInt8) (A A2 : Option Addr) (n c n2 c2 B B2 : Nat) (w : World) (hk : Bs w B A n c ks) (hl : Bs w B2 A2 n2 c2 ls) :
    Calls Try.prog 31 #[.slice A n c, .slice A2 n2 c2] w fun e w' => e = .returned (.bool (ks == ls)) ∧ w = w' := by
  have s1 := strAt hk
  have s2 := strAt hl
  go_enter Try.func31, Try.ntmps31
  go_wp2
  go_ret
  exact ⟨by simp, rfl⟩

theorem run_bytesOf {w : World} {B : Nat} {A : Option Addr} {n c : Nat} {ks : List UInt8} (h : Bs w B A n c ks) : (Extern.Bytes.bytesOf (.slice A n c)).run Try.prog w = .ok ⟨ks.toArray⟩ w := by
  cases A with
  | none =>
    obtain ⟨rfl, rfl⟩ := bs_none h
    rfl
  | some a =>
    have hl := h.len
    have hx := Lib.run_loadBytesX (P := Try.prog) (w := w) (ks.map fun b => (b.toNat : Int)) a .empty (fun j x hj => by
      rw [List.getElem?_map, Option.map_eq_some_iff] at hj
      obtain ⟨b, hb, rfl⟩ := hj
      obtain ⟨bk, off, e, _, hc⟩ := h.row (by intro e; rw [List.map_eq_nil_iff] at e; subst e; simp at hb)
      injection e with e
      subst e
      rw [Addr.add_lit]
      exact hc j _ (by rw [List.getElem?_map, hb]; rfl))
    rw [List.length_map, hl] at hx
    have e : (Lib.bytesOf (ks.map fun b => (b.toNat : Int))).toArray = ks.toArray := by
      congr 1
      simp [Lib.bytesOf, Function.comp_def]
    rw [e] at hx
    simpa [Extern.Bytes.bytesOf] using hx

theorem compare_any (ks ls : List UInt8) (A A2 : Option Addr) (n c n2 c2 B B2 : Nat) (w : World) (hk : Bs w B A n c ks) (hl : Bs w B2 A2 n2 c2 ls) :
    Calls Try.prog 47 #[.slice A n c, .slice A2 n2 c2] w fun e w' => e = .returned (.int .i64 (Lib.compareBytes ks ls)) ∧ w = w' := by
  have hrun : (callFunc 55 #[.slice A n c, .slice A2 n2 c2]).run Try.prog w = .ok (.value (.int .i64 (Lib.compareBytes ks ls))) w := by
    rw [run_callFunc_extern Try.func55 (by kernel_rfl) (by kernel_rfl) (by kernel_rfl) (e := Extern.BytealgCompare.compare) (by kernel_rfl)]
    have : (Extern.BytealgCompare.compare #[.slice A n c, .slice A2 n2 c2]).run Try.prog w = .ok (.int .i64 (Lib.compareBytes ks ls)) w := by
      change Sem.run Try.prog (do pure (goInt (Extern.BytealgCompare.cmp (← Extern.Bytes.bytesOf (.slice A n c)) (← Extern.Bytes.bytesOf (.slice A2 n2 c2))))) w = _
      simp only [Sem.run_bind, Sem.run_pure, run_bytesOf hk, run_bytesOf hl, Result.andThen]
      rw [Lib.cmp_eq]
      rfl
    rw [this]
    rfl
  go_enter Try.func47, Try.ntmps47
  go_wp2
  go_ret
  exact ⟨rfl, rfl⟩

end Go.Proofs.Ytkbjbjkgohkkjaa
