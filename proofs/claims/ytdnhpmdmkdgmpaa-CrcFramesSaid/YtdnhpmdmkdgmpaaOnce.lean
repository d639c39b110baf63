/-
  sync.Once over the table: Do, done already or not; ready. No condition.
-/
import Derived.Test.YtdnhpmdmkdgmpaaTab
import Derived.Tactics2
import Derived.Defers
import Derived.RegionTactic
import Derived.RegionCalls
import Derived.ChangeAlike
namespace Go.Proofs.Ytdnhpmdmkdgmpaa
open Go.RowKit

theorem grown_trans {a b c : World} {g : Nat} (h : a.grownBy b (some g)) (k : b.grownBy c (some g)) : a.grownBy c (some g) :=
  ⟨k.os.trans h.os, k.tape.trans h.tape, k.output.trans h.output, Nat.le_trans h.size k.size, fun i hi hn => (k.block i (Nat.lt_of_lt_of_le hi h.size) hn).trans (h.block i hi hn)⟩
theorem disable (w : World) : (callFunc 59 #[]).run Try.prog w = .ok (.value (.tuple #[])) w := run_call_mark0 Try.func59 (by kernel_rfl) (by kernel_rfl) (by kernel_rfl) .disable (by kernel_rfl) w
theorem enable (w : World) : (callFunc 61 #[]).run Try.prog w = .ok (.value (.tuple #[])) w := run_call_mark0 Try.func61 (by kernel_rfl) (by kernel_rfl) (by kernel_rfl) .enable (by kernel_rfl) w
theorem acquire (a : Addr) (w : World) : (callFunc 62 #[.pointer (some a)]).run Try.prog w = .ok (.value (.tuple #[])) w := run_call_marked Try.func62 (by kernel_rfl) (by kernel_rfl) (by kernel_rfl) .acquire (by kernel_rfl) a w
theorem releaseMerge (a : Addr) (w : World) : (callFunc 64 #[.pointer (some a)]).run Try.prog w = .ok (.value (.tuple #[])) w := run_call_marked Try.func64 (by kernel_rfl) (by kernel_rfl) (by kernel_rfl) .releaseMerge (by kernel_rfl) a w

theorem store_deferred (a : Addr) (x : Value) (u : FrameMode) (w : World) (hc : w.cell? a = some x) (hz : w.frozen? a = false) :
    CallsD Try.prog 53 #[.pointer (some a), .bool true] u w fun e u' w' => u' = u ∧ (e = .returned (.tuple #[]) ∧ w' = w.drew.setCell a (.int .u32 1)) := by
  have hc' : w.drew.cell? a = some x := by go_simp
  have hz' : w.drew.frozen? a = false := by go_simp
  have hst := run_call_store (P := Try.prog) Try.func57 (by kernel_rfl) (by kernel_rfl) (by kernel_rfl) (by kernel_rfl) (k := .u32) (y := 1) hc' hz'
  go_enter_d Try.func53, Try.ntmps53
  go_wp2
  go_region_calls
  all_goals (go_end0; exact ⟨rfl, rfl⟩)

set_option maxRecDepth 100000 in
set_option maxHeartbeats 1000000 in
theorem unlock_deferred (a : Addr) (u : FrameMode) (w : World) (hc : w.cell? a = some (.int .i32 1)) (hz : w.frozen? a = false) :
    CallsD Try.prog 52 #[.pointer (some a)] u w fun e u' w' => u' = u ∧ (e = .returned (.tuple #[]) ∧ w' = w.setCell a (.int .i32 0)) := by
  have hd := disable
  have he := enable
  have hr := releaseMerge
  have hadd := run_call_add (P := Try.prog) Try.func54 (by kernel_rfl) (by kernel_rfl) (by kernel_rfl) .i32 (by kernel_rfl) (y := -1) (s := 0) hc hz (by simp [go_sem]; rfl)
  have hcv := run_convert_to_unsafe (P := Try.prog) (src := 108) (dst := 111) Try.underlying108 Try.underlying111 (by kernel_rfl) hc
  go_enter_d Try.func52, Try.ntmps52
  go_wp2
  go_end0
  go_wp2
  go_end0
  exact ⟨rfl, rfl⟩

set_option maxRecDepth 100000 in
set_option maxHeartbeats 1000000 in
theorem lock_free (a : Addr) (w : World) (hc : w.cell? a = some (.int .i32 0)) (hz : w.frozen? a = false) :
    Calls Try.prog 51 #[.pointer (some a)] w fun e w' => e = .returned (.tuple #[]) ∧ w' = w.setCell a (.int .i32 1) := by
  have hd := disable
  have he := enable
  have ha := acquire
  have hcas := run_call_cas_hit (P := Try.prog) Try.func60 (by kernel_rfl) (by kernel_rfl) (by kernel_rfl) .i32 (by kernel_rfl) (y := 1) hc hz
  have hc' : (w.setCell a (.int .i32 1)).cell? a = some (.int .i32 1) := World.cell?_setCell_same w a _ hc
  have hcv := run_convert_to_unsafe (P := Try.prog) (src := 108) (dst := 111) Try.underlying108 Try.underlying111 (by kernel_rfl) hc'
  go_enter Try.func51, Try.ntmps51
  go_wp2
  first | go_end0 | (simp only [Exit.inBlock, Exit.then]; refine bodyPost_ret (results_none rfl _ _ _) rfl ?_) | refine bodyPost_ret (results_none rfl _ _ _) rfl ?_
  go_wp2
  go_end0
  exact ⟨rfl, rfl⟩

theorem loadb_any (g : Nat) (is dn st md : Int) (k : Nat) (w : World) (h : Tb w g is dn st md k) :
    Calls Try.prog 46 #[.pointer (some ⟨g, 1, none⟩)] w fun e w' => e = .returned (.bool (dn != 0)) ∧ w = w' := by
  have hl := run_call_load (P := Try.prog) Try.func50 (by kernel_rfl) (by kernel_rfl) (by kernel_rfl) .u32 (by kernel_rfl) h.c1
  go_enter Try.func46, Try.ntmps46
  go_wp2
  go_ret
  exact ⟨rfl, rfl⟩

/-- the table is made, and nothing else has changed -/
def Madeby (w : World) (g : Nat) (is : Int) (e : Ending) (w' : World) : Prop := e = .returned (.tuple #[]) ∧ Tb w' g is 1 0 1 256 ∧ w.grownBy w' (some g)

set_option maxRecDepth 100000 in
set_option maxHeartbeats 1600000 in
theorem slow_any (g : Nat) (is : Int) (w : World) (h : Tb w g is 0 0 0 0) :
    Calls Try.prog 47 #[.pointer (some ⟨g, 1, none⟩), .func (.func 41) #[.pointer (some ⟨g, 0, none⟩)] #[]] w (Madeby w g is) := by
  have h1 := h.put2 1
  go_enter_defers Try.func47, Try.ntmps47
  go_wp2_with fail
  refine (lock_free ⟨g, 2, none⟩ _ h.c2 (h.frozen 2)).mono ?_
  rintro e w' ⟨rfl, rfl⟩
  go_wp2_with fail
  refine (loadb_any g is 0 1 0 0 _ h1).mono ?_
  rintro e w' ⟨rfl, rfl⟩
  go_wp2_with fail
  refine (reckon_any g is 0 1 _ h1).mono ?_
  rintro e w2 ⟨rfl, h2, hg2⟩
  go_wp2
  -- two deferred calls, the last laid first
  refine leaves_cons (f := 53) (args := #[.pointer (some ⟨g, 1, none⟩), .bool true]) (by simp) (by simp [go_sem]) ?_
  refine (store_deferred ⟨g, 1, none⟩ (.int .u32 0) .returning _ h2.c1 (h2.frozen 1)).mono ?_
  rintro e u' w'' ⟨rfl, rfl, rfl⟩
  have h3 := (h2.drew).put1 1
  refine leaves_cons (f := 52) (args := #[.pointer (some ⟨g, 2, none⟩)]) (by simp [settle]) (by simp [go_sem]) ?_
  refine (unlock_deferred ⟨g, 2, none⟩ _ _ h3.c2 (h3.frozen 2)).mono ?_
  rintro e u' w'' ⟨rfl, rfl, rfl⟩
  have h4 := h3.put2 0
  have hg4 : w.grownBy (((w2.drew).setCell ⟨g, 1, none⟩ (.int .u32 1)).setCell ⟨g, 2, none⟩ (.int .i32 0)) (some g) :=
    grown_set (grown_set (grown_drew (grown_trans (grown_set (World.grownBy.refl _ _) _ _) hg2) 1) _ _) _ _
  simp [Leaves, settle, results, Try.results47]
  exact ⟨rfl, h4, hg4⟩

theorem do_first (g : Nat) (is : Int) (w : World) (h : Tb w g is 0 0 0 0) :
    Calls Try.prog 40 #[.pointer (some ⟨g, 1, none⟩), .func (.func 41) #[.pointer (some ⟨g, 0, none⟩)] #[]] w (Madeby w g is) := by
  go_enter Try.func40, Try.ntmps40
  go_wp2_with fail
  refine (loadb_any g is 0 0 0 0 _ h).mono ?_
  rintro e w' ⟨rfl, rfl⟩
  go_wp2_with fail
  refine (slow_any g is _ h).mono ?_
  rintro e w' ⟨rfl, h', hg'⟩
  go_wp2
  go_end0
  exact ⟨rfl, h', hg'⟩

theorem do_done (g : Nat) (is st md : Int) (k : Nat) (fv : Value) (w : World) (h : Tb w g is 1 st md k) :
    Calls Try.prog 40 #[.pointer (some ⟨g, 1, none⟩), fv] w fun e w' => e = .returned (.tuple #[]) ∧ w = w' := by
  go_enter Try.func40, Try.ntmps40
  go_wp2_with fail
  refine (loadb_any g is 1 st md k _ h).mono ?_
  rintro e w' ⟨rfl, rfl⟩
  go_wp2
  go_end0
  exact ⟨rfl, rfl⟩

end Go.Proofs.Ytdnhpmdmkdgmpaa
