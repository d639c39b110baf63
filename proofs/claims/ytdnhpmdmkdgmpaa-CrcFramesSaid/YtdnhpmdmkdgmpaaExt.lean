/-
  The walks of New, Made, ready, Extend, Sum. Condition: the slice reads as bytes, and does not lie in the table's own block.
-/
import Derived.Test.YtdnhpmdmkdgmpaaRound
namespace Go.Proofs.Ytdnhpmdmkdgmpaa
open Go.RowKit Go.Shelf

attribute [local go_sem] Oper.semAt_some

/-- a table that New has given: reckoned already, or not -/
def Tbl (w : World) (g : Nat) (b : Bool) : Prop := Tb w g 1 (cond b 1 0) 0 (cond b 1 0) (cond b 256 0)
section
variable {w w' : World} {g : Nat} {b : Bool}
theorem Tbl.lt (h : Tbl w g b) : g < w.heap.size := Tb.lt h
theorem Tbl.drewN (h : Tbl w g b) (n : Nat) : Tbl (w.drewN n) g b := h
theorem Tbl.alloc (h : Tbl w g b) (o : Obj) : Tbl (w.alloc o) g b := Tb.alloc h o
theorem Tbl.far (h : Tbl w g b) {p : Addr} (hp : g ≠ p.block) (u : Value) : Tbl (w.setCell p u) g b := Tb.far h hp u
theorem Tbl.below {B : Nat} (h : Tbl w g b) (hb : Below B w w') (hg : g < B) : Tbl w' g b := Tb.below h hb hg
theorem Tbl.grown {row : Option Nat} (h : Tbl w g b) (hb : w.grownBy w' row) (hg : some g ≠ row) : Tbl w' g b := Tb.grown h hb hg
end

/-- nobody made this table -/
def NoTb (w : World) (v : Value) : Prop := v = .pointer none ∨ ∃ g, v = .pointer (some ⟨g, 0, none⟩) ∧ Tb w g 0 0 0 0 0

noncomputable def tbCells (is : Int) : Array Value := Try.zeroCells44.setIfInBounds 0 (.int .i64 is)
theorem tb_of (w : World) (g : Nat) (is : Int) (h : Blk w g 44 (tbCells is)) : Tb w g is 0 0 0 0 :=
  ⟨tbCells is, h, by rw [tbCells, Array.size_setIfInBounds]; kernel_rfl, by rw [tbCells, Array.getElem?_setIfInBounds_self_of_lt (by rw [show Try.zeroCells44.size = 261 by kernel_rfl]; omega)],
    by rw [tbCells, Array.getElem?_setIfInBounds_ne (by decide)]; kernel_rfl, by rw [tbCells, Array.getElem?_setIfInBounds_ne (by decide)]; kernel_rfl, by rw [tbCells, Array.getElem?_setIfInBounds_ne (by decide)]; kernel_rfl, fun i hi => by omega⟩

theorem new_any (w : World) : Calls Try.prog 8 #[] w fun e w' => e = .returned (.pointer (some ⟨w.heap.size, 0, none⟩)) ∧ w' = w.alloc (.cells (tbCells 1) 44) := by
  go_enter Try.func8, Try.ntmps8
  go_wp2
  go_ret
  exact ⟨rfl, rfl⟩

theorem made_any (g : Nat) (is dn st md : Int) (k : Nat) (w : World) (h : Tb w g is dn st md k) (hm : md = 0 ∨ md = 1) :
    Calls Try.prog 9 #[.pointer (some ⟨g, 0, none⟩)] w fun e w' => e = .returned (.int .i64 md) ∧ w = w' := by
  go_enter Try.func9, Try.ntmps9
  go_wp2_with fail
  refine (loadi32_any g is dn st md k _ h).mono ?_
  rintro e w' ⟨rfl, rfl⟩
  go_wp2
  go_ret
  rcases hm with rfl | rfl <;> exact ⟨rfl, rfl⟩

theorem ready_any (g : Nat) (b : Bool) (w : World) (h : Tbl w g b) :
    Calls Try.prog 29 #[.pointer (some ⟨g, 0, none⟩)] w fun e w' => e = .returned (.bool true) ∧ Tbl w' g true ∧ w.grownBy w' (some g) := by
  have hmf : ∀ (fn : Fn) (first cap : Array Value) (w : World), (Instr.makeFunc fn first cap).run Try.prog w = .ok (.func fn first cap) w := fun _ _ _ _ => rfl
  have c0 := Tb.c0 h
  go_enter Try.func29, Try.ntmps29
  go_wp2_with fail
  cases b
  · refine (do_first g 1 _ h).mono ?_
    rintro e w' ⟨rfl, h', hg'⟩
    go_wp2
    go_ret
    exact ⟨rfl, h', hg'⟩
  · refine (do_done g 1 0 1 256 _ _ h).mono ?_
    rintro e w' ⟨rfl, rfl⟩
    go_wp2
    go_ret
    exact ⟨rfl, h, World.grownBy.refl _ _⟩

/-- what a sum gives: the number, and the table may be made -/
def Sums (w : World) (g : Nat) (x : Nat) (e : Ending) (w' : World) : Prop := e = .returned (.int .u32 (x : Int)) ∧ (∃ b', Tbl w' g b') ∧ w.grownBy w' (some g)

theorem bs_grown {w w' : World} {g B : Nat} {A : Option Addr} {n c : Nat} {ks : List UInt8} (h : Bs w B A n c ks) (hB : B ≤ w.heap.size) (hA : 0 < n → ∀ a, A = some a → a.block ≠ g) (hg : w.grownBy w' (some g)) : Bs w' B A n c ks :=
  ⟨Sl.len h, Sl.cap h, Sl.reach h, fun hn => by
    obtain ⟨b, off, e, hb, hc⟩ := Sl.row h hn
    exact ⟨b, off, e, hb, fun j u hu => (World.cell?_of_block (w := w) (hg.block b (by omega) (fun e' => hA (by rw [← Sl.len h]; exact List.length_pos_iff.2 hn) _ e (by injection e')))).trans (hc j u hu)⟩⟩
theorem bs_row {w w' : World} {B : Nat} {row : Option Nat} {A : Option Addr} {n c : Nat} {ks : List UInt8} (h : Bs w B A n c ks) (hB : B ≤ w.heap.size) (hg : w.grownBy w' row) (hr : ∀ r, row = some r → B ≤ r) : Bs w' B A n c ks :=
  ⟨Sl.len h, Sl.cap h, Sl.reach h, fun hn => by
    obtain ⟨b, off, e, hb, hc⟩ := Sl.row h hn
    exact ⟨b, off, e, hb, fun j u hu => (World.cell?_of_block (w := w) (hg.block b (by omega) (fun e' => by have := hr b e'.symm; omega))).trans (hc j u hu)⟩⟩

theorem bs_off {w : World} {g B : Nat} {A : Option Addr} {n c : Nat} {ks : List UInt8} (h : Bs w B A n c ks) (hB : B ≤ g) : 0 < n → ∀ a, A = some a → a.block ≠ g := fun hn a e => by
  obtain ⟨b, off, rfl, hb, _⟩ := h.at_ hn
  injection e with e
  subst e
  show b ≠ g
  omega

theorem ext_none (v : Value) (s : Nat) (A : Option Addr) (n c : Nat) (w : World) (h : NoTb w v) :
    Calls Try.prog 13 #[v, .int .u32 (s : Int), .slice A n c] w fun e w' => e = .returned (.int .u32 0) ∧ Below w.heap.size w w' := by
  rcases h with rfl | ⟨g, rfl, h⟩
  · go_enter Try.func13, Try.ntmps13
    go_wp2
    go_ret
    exact ⟨rfl, (Below.refl _ w).alloc (Nat.le_refl _) _⟩
  · have c0 := (Tb.alloc h (.cells #[.pointer (some ⟨g, 0, none⟩)] 24)).c0
    go_enter Try.func13, Try.ntmps13
    go_wp2
    go_ret
    exact ⟨rfl, (Below.refl _ w).alloc (Nat.le_refl _) _⟩

theorem ext_empty (g : Nat) (b : Bool) (s : Nat) (hs : s < 4294967296) (A : Option Addr) (c : Nat) (w : World) (h : Tbl w g b) :
    Calls Try.prog 13 #[.pointer (some ⟨g, 0, none⟩), .int .u32 (s : Int), .slice A 0 c] w fun e w' => e = .returned (.int .u32 (s : Int)) ∧ w' = w.alloc (.cells #[.pointer (some ⟨g, 0, none⟩)] 24) := by
  have c0 := (Tbl.alloc h (.cells #[.pointer (some ⟨g, 0, none⟩)] 24)).c0
  go_enter Try.func13, Try.ntmps13
  go_wp2
  go_ret
  exact ⟨rfl, rfl⟩

theorem grown_of_below {w w' : World} (h : Below w.heap.size w w') (r : Option Nat) : w.grownBy w' r := ⟨h.os, h.tape, h.output, h.size, fun k hk _ => h.block k hk⟩
theorem neg_u32 (x : Nat) (h : x < 4294967296) : bits .xor .u32 4294967295 (x : Int) = ((neg32 x : Nat) : Int) := by
  show IntKind.u32.wrap ((BitVec.ofInt 32 ((4294967295 : Nat) : Int) ^^^ BitVec.ofInt 32 (x : Int)).toNat : Int) = _
  have e : BitVec.ofInt 32 ((4294967295 : Nat) : Int) = BitVec.allOnes 32 := by decide
  rw [e, BitVec.allOnes_xor, BitVec.toNat_not, ofInt_u32 x h, wrap_u32]
  unfold neg32
  omega
theorem neg_max (x : Nat) (h : x < 4294967296) : bits .xor .u32 IntKind.u32.max (x : Int) = ((neg32 x : Nat) : Int) := by
  rw [show IntKind.u32.max = 4294967295 by decide, neg_u32 x h]
theorem wrap_u8 (n : Int) : IntKind.u8.wrap n = n % 256 := by simp [IntKind.wrap, IntKind.bits, IntKind.signed]
theorem ofInt_u8 (a : Nat) (ha : a < 256) : (BitVec.ofInt 8 (a : Int)).toNat = a := by
  rw [BitVec.ofInt_natCast, BitVec.toNat_ofNat]; exact Nat.mod_eq_of_lt (by omega)
theorem xor_u8_nat (a b : Nat) (ha : a < 256) (hb : b < 256) : bits .xor .u8 (a : Int) (b : Int) = ((a ^^^ b : Nat) : Int) := by
  have hx : a ^^^ b < 2 ^ 8 := Nat.xor_lt_two_pow (by omega) (by omega)
  show IntKind.u8.wrap ((BitVec.ofInt 8 (a : Int) ^^^ BitVec.ofInt 8 (b : Int)).toNat : Int) = _
  rw [BitVec.toNat_xor, ofInt_u8 a ha, ofInt_u8 b hb, wrap_u8]
  omega

def foldx (x : Nat) (pre : List UInt8) : Nat := pre.foldl (fun x c => upd x c.toNat) x
theorem foldx_snoc (x : Nat) (pre : List UInt8) (c : UInt8) : foldx x (pre ++ [c]) = upd (foldx x pre) c.toNat := by simp [foldx]

set_option maxRecDepth 100000 in
set_option maxHeartbeats 2000000 in
theorem ext_some (g : Nat) (b : Bool) (s : Nat) (hs : s < 4294967296) (ks : List UInt8) (A : Option Addr) (n c : Nat) (hn : 0 < n) (w : World) (h : Tbl w g b) (hks : Bs w w.heap.size A n c ks) (hA : ∀ a, A = some a → a.block ≠ g) :
    Calls Try.prog 13 #[.pointer (some ⟨g, 0, none⟩), .int .u32 (s : Int), .slice A n c] w fun e w' => e = .returned (.int .u32 ((ext s ks : Nat) : Int)) ∧ Tbl w' g true ∧ w.grownBy w' (some g) := by
  refine (callsIn_wide (n := 9)).1 ?_
  refine callsIn_of_wp_marks Try.func13 rfl trivial ?_ rfl
  simp only [Try.ntmps13, List.size_toArray, List.length_cons, List.length_nil, Nat.reduceAdd, Nat.reduceSub, Array.replicate_succ, Array.replicate_zero, List.push_toArray, List.append_toArray, List.nil_append, List.cons_append]
  have f29 : Fence.wide.fn 29 := trivial
  have f30 : Fence.wide.fn 30 := trivial
  have c0 := (Tbl.alloc h (.cells #[.pointer (some ⟨g, 0, none⟩)] 24)).c0
  have hgl := h.lt
  have hneg := neg_max s hs
  obtain ⟨b3, off, rfl, hb3, hc3⟩ := hks.at_ hn
  have hlen := hide hks.len
  have hcap := hks.cap
  have hre := hks.reach
  have hbg : b3 ≠ g := hA _ rfl
  clear hA
  have hg0 : w.grownBy (w.alloc (.cells #[.pointer (some ⟨g, 0, none⟩)] 24)) (some g) := grown_of_below ((Below.refl w.heap.size w).alloc (Nat.le_refl _) _) _
  have hT0 : Boxed (w.alloc (.cells #[.pointer (some ⟨g, 0, none⟩)] 24)) w.heap.size 24 (.pointer (some ⟨g, 0, none⟩)) := Blk.new w 24 _
  gi_wp2_with fail
  refine (callsIn_wide.2 (ready_any g b _ (Tbl.alloc h _))).mono ?_
  rintro e w1 ⟨rfl, ht1, hg1⟩
  have hT1 : Boxed w1 w.heap.size 24 (.pointer (some ⟨g, 0, none⟩)) := hT0.kept hg1 (by simp; omega)
  have hgw := grown_trans hg0 hg1
  have hgs := hgw.size
  have hr1 : ∀ k (hk : k < ks.length), w1.cell? ⟨b3, off + k, none⟩ = some (.int .u8 (ks[k].toNat : Int)) := fun k hk =>
    (World.cell?_of_block (w := w) (hgw.block b3 hb3 (by simpa using hbg))).trans (hc3 k hk)
  clear hc3 hks h hT0 c0
  have hTl := hT1.lt
  gi_wp2_with (gi_at_call 30; refine (callsIn_wide.2 (valuesF_any _ n c _)).mono ?_; rintro e w2 ⟨rfl, rfl⟩)
  have x1 := (Blk.new w1 27 #[.int .u32 ((neg32 s : Nat) : Int)]).alloc (.cells #[.slice (some ⟨b3, off, none⟩) n c] 22)
  have x2 := Blk.new (w1.alloc (.cells #[.int .u32 ((neg32 s : Nat) : Int)] 27)) 22 #[.slice (some ⟨b3, off, none⟩) n c]
  rw [World.size_alloc] at x2
  have ht := (ht1.alloc (.cells #[.int .u32 ((neg32 s : Nat) : Int)] 27)).alloc (.cells #[.slice (some ⟨b3, off, none⟩) n c] 22)
  have hT := Blk.alloc (Blk.alloc hT1 (.cells #[.int .u32 ((neg32 s : Nat) : Int)] 27)) (.cells #[.slice (some ⟨b3, off, none⟩) n c] 22)
  have hB0 := ((Below.refl w1.heap.size w1).alloc (Nat.le_refl _) (.cells #[.int .u32 ((neg32 s : Nat) : Int)] 27)).alloc (by simp) (.cells #[.slice (some ⟨b3, off, none⟩) n c] 22)
  have hsz : ((w1.alloc (.cells #[.int .u32 ((neg32 s : Nat) : Int)] 27)).alloc (.cells #[.slice (some ⟨b3, off, none⟩) n c] 22)).heap.size = w1.heap.size + 1 + 1 := by simp
  generalize ((w1.alloc (.cells #[.int .u32 ((neg32 s : Nat) : Int)] 27)).alloc (.cells #[.slice (some ⟨b3, off, none⟩) n c] 22)) = W0 at *
  have hgl1 := ht1.lt
  have hrow : ∀ k (hk : k < ks.length), ∃ off', (some (⟨b3, off, none⟩ : Addr)) = some ⟨b3, off', none⟩ ∧ W0.cell? ⟨b3, off' + k, none⟩ = some (.int .u8 (ks[k].toNat : Int)) := fun k hk =>
    ⟨off, rfl, (hB0.cell (p := ⟨b3, off + k, none⟩) (by simp; omega)).trans (hr1 k hk)⟩
  clear hr1
  have hnl : neg32 s < 4294967296 := by unfold neg32; omega
  refine wpIn_rangeFunc_ownG (n := 9) rfl (by omega) (gf := 42) (lb := #[.pointer (some ⟨w1.heap.size + 1, 0, none⟩)]) rfl trivial (enters_of Try.func42 (by kernel_rfl) rfl)
    (values_stops (9 - 1) (by omega) (w1.heap.size + 1) b3 ks (some ⟨b3, off, none⟩) n c hlen.out (by omega) hcap W0 (by omega) (by omega) (x2.cell 0) hrow)
    keepAt_t (keepAt_b (by omega) (by omega)) (Below.refl _ _) (fun _ => rfl)
    (fun pre W => (Boxed W w1.heap.size 27 (.int .u32 ((foldx (neg32 s) pre : Nat) : Int)) ∧ Boxed W (w1.heap.size + 1) 22 (.slice (some ⟨b3, off, none⟩) n c)) ∧ Below w1.heap.size W0 W)
    (fun _ _ _ => False)
    (OwnFrom.and (OwnFrom.and (Own.from (boxed_own _ _ (fun pre => Value.int .u32 ((foldx (neg32 s) pre : Nat) : Int))) _) (Own.from (boxed_own _ _ _) _)) (ownFrom_below (by omega) (by omega)))
    (fun _ _ _ _ _ hs _ _ => hs)
    ⟨⟨x1, x2⟩, Below.refl _ _⟩ ?a1 ?assign ?body ?done ?stop
  case assign =>
    intro l x W K hK
    simp only [encB]
    gi_wp2
    exact hK
  case body =>
    rintro l pre ch W ⟨⟨hX, hV⟩, hBW⟩ hpre
    have hch := ch.toNat_lt
    have hY : foldx (neg32 s) pre < 4294967296 := fold_lt pre hnl
    have hsn := foldx_snoc (neg32 s) pre ch
    generalize foldx (neg32 s) pre = Y at *
    have hidx : Y % 256 ^^^ ch.toNat < 256 := Nat.xor_lt_two_pow (n := 8) (by omega) (by omega)
    have hx8 := xor_u8_nat (Y % 256) ch.toNat (by omega) hch
    have htl := tab_lt hidx
    have hx32 := xor_u32_nat (tab (Y % 256 ^^^ ch.toNat)) (Y / 256) htl (by omega)
    rw [show tab (Y % 256 ^^^ ch.toNat) ^^^ Y / 256 = upd Y ch.toNat from rfl] at hx32
    rw [show ((Y % 256 : Nat) : Int) = IntKind.u8.wrap (Y : Int) by rw [wrap_u8]; simp] at hx8
    rw [show ((Y / 256 : Nat) : Int) = (Y : Int) / 256 by simp] at hx32
    have htW := Tb.below ht hBW hgl1
    have kT := htW.row hidx
    have hTW := Blk.below hT hBW hTl
    generalize Y % 256 ^^^ ch.toNat = J at *
    have hJ0 : (0 : Int) ≤ (J : Int) := by omega
    have hJ1 : (J : Int) < 256 := by omega
    have hHS : W.drew.cell? ⟨w.heap.size, 0, none⟩ = some (.pointer (some ⟨g, 0, none⟩)) ∧ W.drew.cell? ⟨w1.heap.size, 0, none⟩ = some (.int .u32 (Y : Int)) ∧ W.drew.cell? ⟨g, 5 + J, none⟩ = some (.int .u32 (tab J : Int)) := ⟨hTW.cell 0, hX.cell, kT⟩
    gi_wp2
    refine region_round_last 12 (S := fun W' => W'.cell? ⟨w.heap.size, 0, none⟩ = some (.pointer (some ⟨g, 0, none⟩)) ∧ W'.cell? ⟨w1.heap.size, 0, none⟩ = some (.int .u32 (Y : Int)) ∧ W'.cell? ⟨g, 5 + J, none⟩ = some (.int .u32 (tab J : Int))) (by kernel_rfl) (by kernel_rfl) hHS (fun hHeld => ?_)
    refine wpAnyL_take (i := 0) (v := ?_) rfl (by kernel_rfl) (by kernel_rfl) (by kernel_rfl) (by kernel_rfl) (fun _ _ _ h => by cases h.1) (Or.inl ⟨by kernel_rfl, ?_⟩) (by assumption) ?_
    rotate_left
    · (intro w hSw; (try dsimp only at hSw); go_simp; try with_reducible rfl)
    (try simp only [Act.put, List.getElem_toArray, List.getElem_cons_succ, List.getElem_cons_zero, List.setIfInBounds_toArray, List.set_cons_zero, List.set_cons_succ])
    refine wpAnyL_take (i := 1) (v := ?_) rfl (by kernel_rfl) (by kernel_rfl) (by kernel_rfl) (by kernel_rfl) (fun _ _ _ h => by cases h.1) (Or.inl ⟨by kernel_rfl, ?_⟩) (by assumption) ?_
    rotate_left
    · (intro w hSw; (try dsimp only at hSw); go_simp; try with_reducible rfl)
    (try simp only [Act.put, List.getElem_toArray, List.getElem_cons_succ, List.getElem_cons_zero, List.setIfInBounds_toArray, List.set_cons_zero, List.set_cons_succ])
    refine wpAnyL_take (i := 2) (v := ?_) rfl (by kernel_rfl) (by kernel_rfl) (by kernel_rfl) (by kernel_rfl) (fun _ _ _ h => by cases h.1) (Or.inl ⟨by kernel_rfl, ?_⟩) (by assumption) ?_
    rotate_left
    · (intro w hSw; (try dsimp only at hSw); go_simp; try with_reducible rfl)
    (try simp only [Act.put, List.getElem_toArray, List.getElem_cons_succ, List.getElem_cons_zero, List.setIfInBounds_toArray, List.set_cons_zero, List.set_cons_succ])
    refine wpAnyL_take (i := 3) (v := ?_) rfl (by kernel_rfl) (by kernel_rfl) (by kernel_rfl) (by kernel_rfl) (fun _ _ _ h => by cases h.1) (Or.inl ⟨by kernel_rfl, ?_⟩) (by assumption) ?_
    rotate_left
    · (intro w hSw; (try dsimp only at hSw); go_simp; try with_reducible rfl)
    (try simp only [Act.put, List.getElem_toArray, List.getElem_cons_succ, List.getElem_cons_zero, List.setIfInBounds_toArray, List.set_cons_zero, List.set_cons_succ])
    refine wpAnyL_take (i := 4) (v := ?_) rfl (by kernel_rfl) (by kernel_rfl) (by kernel_rfl) (by kernel_rfl) (fun _ _ _ h => by cases h.1) (Or.inl ⟨by kernel_rfl, ?_⟩) (by assumption) ?_
    rotate_left
    · (intro w hSw; (try dsimp only at hSw); go_simp; try with_reducible rfl)
    (try simp only [Act.put, List.getElem_toArray, List.getElem_cons_succ, List.getElem_cons_zero, List.setIfInBounds_toArray, List.set_cons_zero, List.set_cons_succ])
    refine wpAnyL_take (i := 5) (v := ?_) rfl (by kernel_rfl) (by kernel_rfl) (by kernel_rfl) (by kernel_rfl) (fun _ _ _ h => by cases h.1) (Or.inl ⟨by kernel_rfl, ?_⟩) (by assumption) ?_
    rotate_left
    · (intro w hSw; (try dsimp only at hSw); go_simp; try with_reducible rfl)
    (try simp only [Act.put, List.getElem_toArray, List.getElem_cons_succ, List.getElem_cons_zero, List.setIfInBounds_toArray, List.set_cons_zero, List.set_cons_succ])
    refine wpAnyL_take (i := 6) (v := ?_) rfl (by kernel_rfl) (by kernel_rfl) (by kernel_rfl) (by kernel_rfl) (fun _ _ _ h => by cases h.1) (Or.inl ⟨by kernel_rfl, ?_⟩) (by assumption) ?_
    rotate_left
    · (intro w hSw; (try dsimp only at hSw); go_simp; try with_reducible rfl)
    (try simp only [Act.put, List.getElem_toArray, List.getElem_cons_succ, List.getElem_cons_zero, List.setIfInBounds_toArray, List.set_cons_zero, List.set_cons_succ])
    refine wpAnyL_take (i := 7) (v := ?_) rfl (by kernel_rfl) (by kernel_rfl) (by kernel_rfl) (by kernel_rfl) (fun _ _ _ h => by cases h.1) (Or.inl ⟨by kernel_rfl, ?_⟩) (by assumption) ?_
    rotate_left
    · (intro w hSw; (try dsimp only at hSw); go_simp; try with_reducible rfl)
    (try simp only [Act.put, List.getElem_toArray, List.getElem_cons_succ, List.getElem_cons_zero, List.setIfInBounds_toArray, List.set_cons_zero, List.set_cons_succ])
    refine wpAnyL_take (i := 8) (v := ?_) rfl (by kernel_rfl) (by kernel_rfl) (by kernel_rfl) (by kernel_rfl) (fun _ _ _ h => by cases h.1) (Or.inl ⟨by kernel_rfl, ?_⟩) (by assumption) ?_
    rotate_left
    · (intro w hSw; (try dsimp only at hSw); go_simp; try with_reducible rfl)
    (try simp only [Act.put, List.getElem_toArray, List.getElem_cons_succ, List.getElem_cons_zero, List.setIfInBounds_toArray, List.set_cons_zero, List.set_cons_succ])
    refine wpAnyL_take (i := 9) (v := ?_) rfl (by kernel_rfl) (by kernel_rfl) (by kernel_rfl) (by kernel_rfl) (fun _ _ _ h => by cases h.1) (Or.inl ⟨by kernel_rfl, ?_⟩) (by assumption) ?_
    rotate_left
    · (intro w hSw; (try dsimp only at hSw); go_simp; try with_reducible rfl)
    (try simp only [Act.put, List.getElem_toArray, List.getElem_cons_succ, List.getElem_cons_zero, List.setIfInBounds_toArray, List.set_cons_zero, List.set_cons_succ])
    refine wpAnyL_take (i := 10) (v := ?_) rfl (by kernel_rfl) (by kernel_rfl) (by kernel_rfl) (by kernel_rfl) (fun _ _ _ h => by cases h.1) (Or.inl ⟨by kernel_rfl, ?_⟩) (by assumption) ?_
    rotate_left
    · (intro w hSw; (try dsimp only at hSw); go_simp; try with_reducible rfl)
    (try simp only [Act.put, List.getElem_toArray, List.getElem_cons_succ, List.getElem_cons_zero, List.setIfInBounds_toArray, List.set_cons_zero, List.set_cons_succ])
    refine wpAnyL_take (i := 11) (v := ?_) rfl (by kernel_rfl) (by kernel_rfl) (by kernel_rfl) (by kernel_rfl) (fun _ _ _ h => by cases h.1) (Or.inl ⟨by kernel_rfl, ?_⟩) (by assumption) ?_
    rotate_left
    · (intro w hSw; (try dsimp only at hSw); go_simp; try with_reducible rfl)
    (try simp only [Act.put, List.getElem_toArray, List.getElem_cons_succ, List.getElem_cons_zero, List.setIfInBounds_toArray, List.set_cons_zero, List.set_cons_succ])
    have kX : W.drew.cell? ⟨w1.heap.size, 0, none⟩ = some (.int .u32 (Y : Int)) := hX.cell
    have fX : W.drew.frozen? ⟨w1.heap.size, 0, none⟩ = false := hX.frozen
    refine wpAnyL_last (w' := W.drew.setCell ⟨w1.heap.size, 0, none⟩ (.int .u32 ((upd Y ch.toNat : Nat) : Int))) (by kernel_rfl) rfl (by kernel_rfl) (by kernel_rfl) (by go_simp) ⟨rfl, ?_⟩
    simp only [Exit.inBlock, Exit.then]
    refine ⟨((show KeepsOthers W W.drew from ⟨Nat.le_refl _, fun _ _ h _ => h⟩).trans (KeepsOthers.setCell W.drew ⟨w1.heap.size, 0, none⟩ _)).from _, ⟨Below.heap_setCell _ _ _ _ (by simp), Below.heap_setCell _ _ _ _ (by simp; omega)⟩, ⟨?_, ?_⟩, ?_⟩
    · rw [hsn]
      exact (Blk.drewN hX 1).put 0 _
    · exact Blk.far (Blk.drewN hV 1) (by simp) _
    · exact (hBW.trans (show Below w1.heap.size W W.drew from ⟨rfl, rfl, rfl, Nat.le_refl _, fun _ _ => rfl⟩)).setCell (p := ⟨w1.heap.size, 0, none⟩) (by simp) _
  case done =>
    rintro D ys W hD rfl ⟨⟨hX, hV⟩, hBW⟩ hK
    have hY : foldx (neg32 s) ys < 4294967296 := fold_lt ys hnl
    have hx : ext s ys = neg32 (foldx (neg32 s) ys) := rfl
    have hneg := neg_max _ hY
    obtain ⟨Y, hYd⟩ : ∃ Y, foldx (neg32 s) ys = Y := ⟨_, rfl⟩
    rw [hYd] at hX hY hneg hx
    have Hx := hide hx
    clear hx hYd
    have kX := hX.cell
    have htW := Tb.below ht hBW hgl1
    gi_wp2
    refine ⟨by simp, .inl ⟨_, _, rfl, run_takeDeferred hK, ?_⟩⟩
    refine ⟨.int .u32 ((neg32 Y : Nat) : Int), ?_, by rw [Hx.out], Tb.grown htW (grownBy_putObj' _ D (.deferred none)) (by simp; omega), grown_trans hgw (grown_of_below ((hB0.trans hBW).trans (belowK_b (w := w1) (Nat.le_refl _) _ D _ _ (by omega) hK rfl rfl)) _)⟩
    simp [results, Try.f13, go_sem]
  case stop =>
    rintro D c' pre W _ _ hh _
    exact hh.elim

/-- Extend of any bytes -/
theorem ext_any (g : Nat) (b : Bool) (s : Nat) (hs : s < 4294967296) (ks : List UInt8) (A : Option Addr) (n c : Nat) (w : World) (h : Tbl w g b) (hks : Bs w w.heap.size A n c ks) (hA : 0 < n → ∀ a, A = some a → a.block ≠ g) :
    Calls Try.prog 13 #[.pointer (some ⟨g, 0, none⟩), .int .u32 (s : Int), .slice A n c] w fun e w' => e = .returned (.int .u32 ((ext s ks : Nat) : Int)) ∧ Tbl w' g (b || decide (0 < n)) ∧ w.grownBy w' (some g) := by
  rcases Nat.eq_zero_or_pos n with h0 | h0
  · subst h0
    obtain rfl := List.eq_nil_of_length_eq_zero hks.len
    refine (ext_empty g b s hs A c w h).mono ?_
    rintro e w' ⟨rfl, rfl⟩
    exact ⟨by rw [ext_nil hs], by simpa using h.alloc _, grown_of_below ((Below.refl _ w).alloc (Nat.le_refl _) _) _⟩
  · refine (ext_some g b s hs ks A n c h0 w h hks (hA h0)).mono ?_
    rintro e w' ⟨rfl, ht, hg⟩
    exact ⟨rfl, by simpa [h0] using ht, hg⟩

theorem sum_any (g : Nat) (b : Bool) (ks : List UInt8) (A : Option Addr) (n c : Nat) (w : World) (h : Tbl w g b) (hks : Bs w w.heap.size A n c ks) (hA : 0 < n → ∀ a, A = some a → a.block ≠ g) :
    Calls Try.prog 10 #[.pointer (some ⟨g, 0, none⟩), .slice A n c] w fun e w' => e = .returned (.int .u32 ((ext 0 ks : Nat) : Int)) ∧ Tbl w' g (b || decide (0 < n)) ∧ w.grownBy w' (some g) := by
  go_enter Try.func10, Try.ntmps10
  go_wp2_with fail
  refine (ext_any g b 0 (by omega) ks A n c w h hks hA).mono ?_
  rintro e w' ⟨rfl, ht, hg⟩
  go_wp2
  go_ret
  exact ⟨rfl, ht, hg⟩

theorem sum_none (v : Value) (A : Option Addr) (n c : Nat) (w : World) (h : NoTb w v) :
    Calls Try.prog 10 #[v, .slice A n c] w fun e w' => e = .returned (.int .u32 0) ∧ Below w.heap.size w w' := by
  have hv := hide h
  obtain ⟨p, rfl⟩ : ∃ p, v = .pointer p := by rcases h with rfl | ⟨g, rfl, _⟩ <;> exact ⟨_, rfl⟩
  go_enter Try.func10, Try.ntmps10
  go_wp2_with fail
  refine (ext_none (.pointer p) 0 A n c w hv.out).mono ?_
  rintro e w' ⟨rfl, hB⟩
  go_wp2
  go_ret
  exact ⟨rfl, hB⟩

end Go.Proofs.Ytdnhpmdmkdgmpaa
