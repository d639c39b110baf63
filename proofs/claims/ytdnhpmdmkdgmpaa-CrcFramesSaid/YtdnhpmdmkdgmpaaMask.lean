/-
  The walks of Mask, of a number's four bytes, of Frame; and of what Frame, Unframe, Each answer of a table that nobody made. Condition: the slice reads as bytes, at most 2^24, and does not lie in the table's own block.
-/
import Derived.Test.YtdnhpmdmkdgmpaaExt
import Derived.Test.YtdnhpmdmkdgmpaaUint
namespace Go.Proofs.Ytdnhpmdmkdgmpaa
open Go.RowKit Go.Shelf

def rot17 (x : Nat) : Nat := x % 32768 * 131072 + x / 32768
def rot15 (x : Nat) : Nat := x % 131072 * 32768 + x / 131072
def maskN (x : Nat) : Nat := (rot17 x + 2726488792) % 4294967296
def unmaskN (x : Nat) : Nat := rot15 ((x + 1568478504) % 4294967296)
theorem rot17_lt {x : Nat} (h : x < 4294967296) : rot17 x < 4294967296 := by unfold rot17; omega
theorem rot15_lt {x : Nat} (h : x < 4294967296) : rot15 x < 4294967296 := by unfold rot15; omega
theorem maskN_lt (x : Nat) : maskN x < 4294967296 := Nat.mod_lt _ (by decide)
theorem rot15_rot17 {x : Nat} (h : x < 4294967296) : rot15 (rot17 x) = x := by
  unfold rot15 rot17
  obtain ⟨a, ha⟩ : ∃ a, x % 32768 = a := ⟨_, rfl⟩
  obtain ⟨b, hb⟩ : ∃ b, x / 32768 = b := ⟨_, rfl⟩
  have h1 : (a * 131072 + b) % 131072 = b := by omega
  have h2 : (a * 131072 + b) / 131072 = a := by omega
  rw [ha, hb, h1, h2]
  omega
theorem rot17_rot15 {x : Nat} (h : x < 4294967296) : rot17 (rot15 x) = x := by
  unfold rot15 rot17
  obtain ⟨a, ha⟩ : ∃ a, x % 131072 = a := ⟨_, rfl⟩
  obtain ⟨b, hb⟩ : ∃ b, x / 131072 = b := ⟨_, rfl⟩
  have h1 : (a * 32768 + b) % 32768 = b := by omega
  have h2 : (a * 32768 + b) / 32768 = a := by omega
  rw [ha, hb, h1, h2]
  omega
theorem unmask_mask {x : Nat} (h : x < 4294967296) : unmaskN (maskN x) = x := by
  have hr := rot17_lt h
  have e : (maskN x + 1568478504) % 4294967296 = rot17 x := by unfold maskN; omega
  rw [unmaskN, e, rot15_rot17 h]
theorem mask_unmask {x : Nat} (h : x < 4294967296) : maskN (unmaskN x) = x := by
  rw [unmaskN, maskN, rot17_rot15 (Nat.mod_lt _ (by decide))]
  omega

theorem or_add (k a b : Nat) (ha : a < 2 ^ k) : a ||| (b * 2 ^ k) = a + b * 2 ^ k := by
  have := Nat.two_pow_add_eq_or_of_lt ha b
  rw [Nat.or_comm, Nat.mul_comm b, ← this, Nat.add_comm]
theorem or_rot17 (x : Nat) (h : x < 4294967296) : bits .or .u32 ((x : Int) * 131072 % 4294967296) ((x : Int) / 32768) = ((rot17 x : Nat) : Int) := by
  have e1 : (x : Int) * 131072 % 4294967296 = ((x % 32768 * 131072 : Nat) : Int) := by omega
  have e2 : (x : Int) / 32768 = ((x / 32768 : Nat) : Int) := by omega
  rw [e1, e2, or_u32_nat _ _ (by omega) (by omega), Nat.or_comm, or_add 17 _ _ (by omega), Nat.add_comm]
  rfl
theorem or_rot15 (x : Nat) (h : x < 4294967296) : bits .or .u32 ((x : Int) * 32768 % 4294967296) ((x : Int) / 131072) = ((rot15 x : Nat) : Int) := by
  have e1 : (x : Int) * 32768 % 4294967296 = ((x % 131072 * 32768 : Nat) : Int) := by omega
  have e2 : (x : Int) / 131072 = ((x / 131072 : Nat) : Int) := by omega
  rw [e1, e2, or_u32_nat _ _ (by omega) (by omega), Nat.or_comm, or_add 15 _ _ (by omega), Nat.add_comm]
  rfl

set_option maxHeartbeats 400000 in
theorem rotl_any (x : Nat) (w : World) (h : x < 4294967296) :
    Calls Try.prog 33 #[.int .u32 (x : Int), .int .i64 (-15)] w fun e w' => e = .returned (.int .u32 ((rot17 x : Nat) : Int)) ∧ w = w' := by
  have hk : bits .and .u64 (IntKind.u64.wrap (-15)) 31 = 17 := by decide +kernel
  have hr := or_rot17 x h
  go_enter Try.func33, Try.ntmps33
  go_wp2
  go_ret
  exact ⟨rfl, rfl⟩

theorem mask_any (x : Nat) (w : World) (h : x < 4294967296) :
    Calls Try.prog 17 #[.int .u32 (x : Int)] w fun e w' => e = .returned (.int .u32 ((maskN x : Nat) : Int)) ∧ w = w' := by
  have hr := rot17_lt h
  go_enter Try.func17, Try.ntmps17
  go_wp2_with fail
  refine (rotl_any x w h).mono ?_
  rintro e w' ⟨rfl, rfl⟩
  go_wp2
  go_ret
  exact ⟨by simp [maskN], rfl⟩

/-- a number's four bytes -/
def le4 (m : Nat) : List UInt8 := [UInt8.ofNat m, UInt8.ofNat (m / 256), UInt8.ofNat (m / 65536), UInt8.ofNat (m / 16777216)]

theorem le4_len (m : Nat) : (le4 m).length = 4 := rfl

set_option maxHeartbeats 400000 in
theorem four_any (m : Nat) (w : World) (h : m < 4294967296) :
    Calls Try.prog 25 #[.int .u32 (m : Int)] w fun e w' => e = .returned (.slice (some ⟨w.heap.size, 0, none⟩) 4 4) ∧ w' = w.alloc (.cells ((le4 m).map b8).toArray 5) := by
  go_enter Try.func25, Try.ntmps25
  go_wp2
  go_ret
  refine ⟨rfl, ?_⟩
  have e : ∀ x : Nat, (((UInt8.ofNat x).toNat : Nat) : Int) = (x : Int) % 256 := fun x => by simp
  simp only [le4, List.map_cons, List.map_nil, b8, e]
  congr 3
  simp
  omega

/-- a frame -/
def frameB (ks : List UInt8) : List UInt8 := uvar ks.length ++ le4 (maskN (ext 0 ks)) ++ ks

theorem grown_step {a b c : World} {g : Nat} {row : Option Nat} (h : a.grownBy b (some g)) (k : b.grownBy c row) (hr : ∀ r, row = some r → a.heap.size ≤ r) : a.grownBy c (some g) :=
  ⟨k.os.trans h.os, k.tape.trans h.tape, k.output.trans h.output, Nat.le_trans h.size k.size, fun i hi hn => (k.block i (Nat.lt_of_lt_of_le hi h.size) (fun e => by have := hr i e.symm; omega)).trans (h.block i hi hn)⟩
theorem mine_far {e : TypeId} {w : World} {base : Nat} {v : Value} {ks : List UInt8} (h : Mine e w base v ks) : ∀ r, v.ownBlock = some r → base ≤ r := fun r hr => (h.lt hr).1

/-- what Frame gives -/
def Framed (w : World) (g : Nat) (b : Bool) (ks : List UInt8) (e : Ending) (w' : World) : Prop := ∃ v, e = .returned (.tuple #[v, .int .i64 0]) ∧ Mine 5 w' w.heap.size v (frameB ks) ∧ Tbl w' g b ∧ w.grownBy w' (some g)

set_option maxRecDepth 100000 in
set_option maxHeartbeats 1000000 in
theorem frame_any (g : Nat) (b : Bool) (ks : List UInt8) (A : Option Addr) (n c : Nat) (w : World) (h : Tbl w g b) (hks : Bs w w.heap.size A n c ks) (hn : n ≤ 16777216) (hA : 0 < n → ∀ a, A = some a → a.block ≠ g) :
    Calls Try.prog 11 #[.pointer (some ⟨g, 0, none⟩), .slice A n c] w (Framed w g (b || decide (0 < n)) ks) := by
  have c0 := Tb.c0 h
  have hgl := h.lt
  have hlen := hide hks.len
  have hul := uvar_len10 n (by omega)
  go_enter Try.func11, Try.ntmps11
  go_wp2_with fail
  refine (uint_any n (by omega) w).mono ?_
  rintro e w1 ⟨v1, rfl, hm1, hB1⟩
  have ht1 := h.below hB1 hgl
  have hk1 := (hks.below hB1).more hB1.size
  have hg1 : w.grownBy w1 (some g) := grown_of_below hB1 _
  have hs1 := hB1.size
  go_wp2_with fail
  refine (sum_any g b ks A n c w1 ht1 hk1 hA).mono ?_
  rintro e w2 ⟨rfl, ht2, hg2⟩
  have hk2 := bs_grown (hks.below hB1) hs1 hA hg2
  have hs2 := hg2.size
  have hm2 := hm1.kept hg2 (.inr (fun e => by have := mine_far hm1 g e; omega))
  have hgw2 := grown_trans hg1 hg2
  have hel := ext_lt ks (sum := 0) (by omega)
  go_wp2_with fail
  refine (mask_any (ext 0 ks) w2 hel).mono ?_
  rintro e w3 ⟨rfl, rfl⟩
  go_wp2_with fail
  refine (four_any (maskN (ext 0 ks)) w2 (maskN_lt _)).mono ?_
  rintro e w3 ⟨rfl, rfl⟩
  have hf : Bs (w2.alloc (.cells ((le4 (maskN (ext 0 ks))).map b8).toArray 5)) _ (some ⟨w2.heap.size, 0, none⟩) 4 4 (le4 (maskN (ext 0 ks))) := Sl.of_blk (Blk.new w2 5 _) rfl (by omega) (by omega)
  have hm3 := hm2.alloc (.cells ((le4 (maskN (ext 0 ks))).map b8).toArray 5)
  have hk3 := hk2.alloc (by omega) (.cells ((le4 (maskN (ext 0 ks))).map b8).toArray 5)
  have ht3 := ht2.alloc (.cells ((le4 (maskN (ext 0 ks))).map b8).toArray 5)
  have hg3 : w.grownBy (w2.alloc (.cells ((le4 (maskN (ext 0 ks))).map b8).toArray 5)) (some g) := grown_trans hgw2 (grown_of_below ((Below.refl _ w2).alloc (Nat.le_refl _) _) _)
  generalize w2.alloc (.cells ((le4 (maskN (ext 0 ks))).map b8).toArray 5) = w3 at *
  have hs3 := hg3.size
  obtain ⟨v4, w4, hrun, hm4, hg4, _⟩ := append_mine (P := Try.prog) 22 Try.underlying22 info5 hm3 hs3 hf (by omega)
  have hr3 := mine_far hm3
  have ht4 := ht3.grown hg4 (fun e => by have := hr3 g e.symm; omega)
  have hk4 := bs_row hk3 (by omega) hg4 hr3
  have hg4' := grown_step hg3 hg4 hr3
  have hs4 := hg4.size
  obtain ⟨v5, w5, hrun5, hm5, hg5, _⟩ := append_mine (P := Try.prog) 22 Try.underlying22 info5 hm4 (by omega) hk4 (by rw [List.length_append, le4_len]; have := hlen.out; omega)
  have hr4 := mine_far hm4
  have ht5 := ht4.grown hg5 (fun e => by have := hr4 g e.symm; omega)
  have hg5' := grown_step hg4' hg5 hr4
  clear hm1 hm2 hm3 hm4 hf hk1 hk2 hk3 hk4 hks c0 hg1 hg2 hg3 hg4 hg5 ht1 ht2 ht3 ht4 hul hel
  go_wp2_with (first
    | (at_builtin; refine wpList_append_run rfl _ _ 22 rfl _ _ _ rfl rfl hrun ?_)
    | (at_builtin; refine wpList_append_run rfl _ _ 22 rfl _ _ _ rfl rfl hrun5 ?_))
  go_ret2
  exact ⟨v5, rfl, by rw [frameB, hlen.out]; exact hm5, ht5, hg5'⟩

theorem frame_none (v : Value) (A : Option Addr) (n c : Nat) (w : World) (h : NoTb w v) :
    Calls Try.prog 11 #[v, .slice A n c] w fun e w' => e = .returned (.tuple #[.slice none 0 0, .int .i64 32]) ∧ w = w' := by
  rcases h with rfl | ⟨g, rfl, h⟩
  · go_enter Try.func11, Try.ntmps11
    go_wp2
    go_ret2
    exact ⟨rfl, rfl⟩
  · have c0 := h.c0
    go_enter Try.func11, Try.ntmps11
    go_wp2
    go_ret2
    exact ⟨rfl, rfl⟩
theorem unframe_none (v : Value) (A : Option Addr) (n c : Nat) (w : World) (h : NoTb w v) :
    Calls Try.prog 12 #[v, .slice A n c] w fun e w' => e = .returned (.tuple #[.slice none 0 0, .int .i64 0, .int .i64 32]) ∧ w = w' := by
  rcases h with rfl | ⟨g, rfl, h⟩
  · go_enter Try.func12, Try.ntmps12
    go_wp2
    go_ret3
    exact ⟨rfl, rfl⟩
  · have c0 := h.c0
    go_enter Try.func12, Try.ntmps12
    go_wp2
    go_ret3
    exact ⟨rfl, rfl⟩
theorem made_none (v : Value) (w : World) (h : NoTb w v) :
    Calls Try.prog 9 #[v] w fun e w' => e = .returned (.int .i64 0) ∧ w = w' := by
  rcases h with rfl | ⟨g, rfl, h⟩
  · go_enter Try.func9, Try.ntmps9
    go_wp2
    go_ret
    exact ⟨rfl, rfl⟩
  · exact made_any g 0 0 0 0 0 w h (.inl rfl)
/-- the loop over the frames, as a function value -/
theorem each_val (v : Value) (A : Option Addr) (n c : Nat) (w : World) (hv : ∃ p, v = .pointer p) :
    Calls Try.prog 14 #[v, .slice A n c] w fun e w' => e = .returned (.func (.func 31) #[] #[.pointer (some ⟨w.heap.size, 0, none⟩), .pointer (some ⟨w.heap.size + 1, 0, none⟩)]) ∧ w' = (w.alloc (.cells #[v] 24)).alloc (.cells #[.slice A n c] 22) := by
  obtain ⟨p, rfl⟩ := hv
  go_enter Try.func14, Try.ntmps14
  go_wp2
  go_ret
  exact ⟨rfl, rfl⟩

end Go.Proofs.Ytdnhpmdmkdgmpaa
