/-
  The walk of bloom.Build. Condition: the slice reads as lists of bytes, of at most so many elements as memory holds.
-/
import Derived.Test.YtkkjfehnkhhafaaSpec
import Derived.Test.YtkkjfehnkhhafaaFew
import Derived.Test.YtkkjfehnkhhafaaRefPlaces
import Derived.Deep.OwnRows
namespace Go.Proofs.Ytkkjfehnkhhafaa
open Go.RowKit Go.Shelf

attribute [local go_sem] Oper.semAt_some

/-- it answers an error's number and these bytes -/
def Built (w : World) (err : Int) (bs : List UInt8) (e : Ending) (w' : World) : Prop :=
  ∃ A n c, e = .returned (.tuple #[.slice A n c, .int .i64 err]) ∧ Bs w' w'.heap.size A n c bs ∧ Below w.heap.size w w'

/-- so many bytes 0 -/
def zerosA (n : Nat) : Array Value := ((List.replicate n (0 : UInt8)).map b8).toArray
theorem made_zero (n : Nat) : madeCells #[.int .u8 0] n = zerosA n := by
  unfold zerosA
  apply Array.ext'
  simp only [madeCells, b8, Array.toList_map, Array.toList_range, List.map_replicate]
  apply List.ext_getElem
  · simp
  · intro i h1 h2
    simp [Nat.mod_one]
theorem run_make_bytes (n : Nat) (x : Int) (hx : x = (n : Int)) (hn : n ≤ 281474976710656) (w : World) :
    (Instr.makeSlice 25 (.int .i64 x) (.int .i64 x)).run Try.prog w = .ok (.slice (some ⟨w.heap.size, 0, none⟩) n n) (w.alloc (.cells (zerosA n) 5)) := by
  subst hx
  rw [run_make_row' (P := Try.prog) 25 5 (.int .u8 0) 1 Try.underlying25 info5 rfl .i64 .i64 n (by omega) (by omega) w, made_zero]

/-- the row while it is filled: one byte more, 0 -/
def rowA (bs : List UInt8) : Array Value := ((bs ++ [0]).map b8).toArray
theorem zerosA_row (n : Nat) : zerosA (n + 1) = rowA (List.replicate n 0) := by
  unfold zerosA rowA
  rw [List.replicate_succ']
theorem probes_at (per : Int) (kk : Nat) (hk : probesOf per = (kk : Int)) (w : World) (h0 : -9223372036854775808 ≤ per) (h1 : per ≤ 9223372036854775807) :
    Calls Try.prog 11 #[.int .i64 per] w fun e w' => e = .returned (.int .i64 (kk : Int)) ∧ w' = w := by
  have := probes_any per w h0 h1
  rw [hk] at this
  exact this

theorem rowA_at (Y : List UInt8) (i : Nat) (hi : i < Y.length) : (rowA Y)[i]? = some (.int .u8 (Y[i].toNat : Int)) := by
  unfold rowA
  have hi' : i < (Y.map b8).length := by simpa using hi
  simp only [List.map_append, List.getElem?_toArray, List.getElem?_append_left hi']
  simp [List.getElem?_eq_getElem hi, b8]
theorem rowA_last (Y : List UInt8) (n : Nat) (hn : Y.length = n) : (rowA Y)[n]? = some (.int .u8 0) := by
  subst hn
  unfold rowA
  simp [b8]
theorem rowA_set (Y : List UInt8) (i : Nat) (v : UInt8) (hi : i < Y.length) : (rowA Y).setIfInBounds i (b8 v) = rowA (Y.set i v) := set_row Y i v hi
theorem rowA_end (Y : List UInt8) (n : Nat) (hn : Y.length = n) (v : UInt8) : (rowA Y).setIfInBounds n (b8 v) = ((Y ++ [v]).map b8).toArray := by
  subst hn
  unfold rowA
  simp only [List.setIfInBounds_toArray, ← List.map_set]
  congr 2
  simp

/-- what holds at the head of each round over the keys -/
def BInv (w : World) (A : Option Addr) (n c p m M wd kk : Nat) (hb : 0 < 8 * wd) (kss : List (List UInt8)) (a : Act) (w' : World) : Prop :=
  ∃ (k : Nat) (Ds : List Nat) (u34 u10 u35 u36 u37 u38 u39 u40 u41 u42 u43 u55 : Value), k ≤ n ∧ u34 = .int .i64 (k : Int) ∧ Boxed w' (w.heap.size + 1) 25 (.slice (some ⟨w.heap.size, 0, none⟩) (wd + 1) (wd + 1)) ∧
    Blk w' w.heap.size 5 (rowA (fillAll (8 * wd) hb kk (List.replicate wd 0) (kss.take k))) ∧ Below w.heap.size w w' ∧ Marks w' w.heap.size Ds ∧
    a = { tmps := #[.slice A n c, .int .i64 (p : Int), undef, undef, .slice none 0 0, .int .i64 0, .int .i64 (wd : Int), .pointer (some ⟨w.heap.size + 1, 0, none⟩), .int .i64 (kk : Int), undef, u10, undef, .int .i64 (p : Int), .bool false, .bool false, .int .i64 (p : Int), .bool false, .bool false, .int .i64 (p : Int), .slice A n c, .int .i64 (n : Int), .int .i64 (m : Int), .int .i64 (M : Int), .int .i64 ((M : Int) + 7), .int .i64 (wd : Int), .int .i64 (wd : Int), .bool (decide (16777216 < (wd : Int))), .int .i64 (wd : Int), .int .i64 ((wd : Int) + 1), .slice (some ⟨w.heap.size, 0, none⟩) (wd + 1) (wd + 1), .int .i64 (p : Int), .int .i64 (kk : Int), .slice A n c, .int .i64 (n : Int), u34, u35, u36, u37, u38, u39, u40, u41, u42, u43, undef, undef, undef, undef, undef, undef, undef, undef, undef, undef, undef, u55, undef, undef, undef, undef, undef, undef], defers := Ds.map markOf }

set_option maxRecDepth 100000 in
set_option maxHeartbeats 4000000 in
theorem build_any (kss : List (List UInt8)) (A : Option Addr) (n c B : Nat) (per : Int) (w : World) (h : Bss w B A n c kss) (hB : B ≤ w.heap.size) (hn : n ≤ 5864062014634) (hp0 : -9223372036854775808 ≤ per) (hp1 : per ≤ 9223372036854775807) :
    Calls Try.prog 9 #[.slice A n c, .int .i64 per] w (Built w (errOf per n) (bytesOf per kss)) := by
  refine (callsIn_wide (n := 9)).1 ?_
  refine callsIn_of_wp_marks Try.func9 rfl trivial ?_ rfl
  simp only [Try.ntmps9, List.size_toArray, List.length_cons, List.length_nil, Nat.reduceAdd, Nat.reduceSub, Array.replicate_succ, Array.replicate_zero, List.push_toArray, List.append_toArray, List.nil_append, List.cons_append]
  have f20 : Fence.wide.fn 20 := trivial
  have f11 : Fence.wide.fn 11 := trivial
  have hlen := hide h.len
  by_cases ha : per < 1
  · have he := hide (show errOf per n = 1 by simp [errOf, ha])
    have he2 := hide (show errOf per kss.length = 1 by rw [hlen.out]; exact he.out)
    gi_wp2
    refine ⟨_, results_tmp2 rfl _ _ _, none, 0, 0, ?_, ?_, Below.refl _ _⟩
    · rw [he.out]; rfl
    · rw [show bytesOf per kss = [] by simp [bytesOf, he2.out]]; exact Bs.nil _ _ _ _
  · by_cases hb : 64 < per
    · have he := hide (show errOf per n = 1 by simp [errOf, hb])
      have he2 := hide (show errOf per kss.length = 1 by rw [hlen.out]; exact he.out)
      gi_wp2
      refine ⟨_, results_tmp2 rfl _ _ _, none, 0, 0, ?_, ?_, Below.refl _ _⟩
      · rw [he.out]; rfl
      · rw [show bytesOf per kss = [] by simp [bytesOf, he2.out]]; exact Bs.nil _ _ _ _
    · obtain ⟨p, rfl⟩ := Int.eq_ofNat_of_zero_le (show 0 ≤ per by omega)
      have hp : p ≤ 64 := by omega
      have hpn : p * n ≤ 64 * n := Nat.mul_le_mul hp (Nat.le_refl _)
      obtain ⟨m, hm⟩ : ∃ m, m = p * n := ⟨_, rfl⟩
      have hmc : ((p : Int) * (n : Int)) = (m : Int) := by rw [hm]; simp
      rw [← hm] at hpn
      have Hm := hide hm
      clear hm
      obtain ⟨M, hM⟩ : ∃ M, M = if m < 64 then 64 else m := ⟨_, rfl⟩
      have hM64 : 64 ≤ M := by rw [hM]; split <;> omega
      have hMb : M ≤ 64 * n + 64 := by rw [hM]; split <;> omega
      have hmax : (if 64 < (m : Int) then (m : Int) else 64) = (M : Int) := by rw [hM]; split <;> split <;> omega
      obtain ⟨wd, hwd⟩ : ∃ wd, wd = (M + 7) / 8 := ⟨_, rfl⟩
      have hwI : ((M : Int) + 7) / 8 = (wd : Int) := by omega
      have hwo : wideOf p n = wd := by unfold wideOf; rw [← Hm.out, ← hM, hwd]
      have hwd8 : 8 ≤ wd := by omega
      have hwdb : wd ≤ 8 * n + 9 := by omega
      have Hwo := hide hwo
      have HM := hide hM
      have Hwd := hide hwd
      clear hM hwo hwd
      by_cases hbig : 16777216 < wd
      · have he := hide (show errOf p n = 2 by unfold errOf; rw [if_neg (by omega), if_neg (by omega), Int.toNat_natCast, Hwo.out, if_pos hbig])
        have he2 := hide (show errOf p kss.length = 2 by rw [hlen.out]; exact he.out)
        gi_wp2
        refine ⟨_, results_tmp2 rfl _ _ _, none, 0, 0, ?_, ?_, Below.refl _ _⟩
        · rw [he.out]; rfl
        · rw [show bytesOf p kss = [] by simp [bytesOf, he2.out]]; exact Bs.nil _ _ _ _
      · have he := hide (show errOf p n = 0 by unfold errOf; rw [if_neg (by omega), if_neg (by omega), Int.toNat_natCast, Hwo.out, if_neg hbig])
        have hmk := run_make_bytes (wd + 1) ((wd : Int) + 1) (by omega) (by omega)
        have hpr := probesOf_range (p : Int)
        obtain ⟨kk, hkk⟩ := Int.eq_ofNat_of_zero_le (show 0 ≤ probesOf (p : Int) by omega)
        have hk30 : kk ≤ 30 := by omega
        have Hkk := hide hkk
        clear hkk hpr
        have hb8 : 0 < 8 * wd := by omega
        gi_wp2_with (gi_at_call 11; refine (callsIn_wide.2 (probes_at p kk Hkk.out _ (by omega) (by omega))).mono ?_; rintro e w' ⟨rfl, rfl⟩)
        refine wpIn_loop (BInv w A n c p m M wd kk hb8 kss) (fun a _ => n - (intOf (a.tmps.getD 34 undef)).toNat) ?_ ?_
        · refine ⟨0, [], _, _, _, _, _, _, _, _, _, _, _, _, Nat.zero_le _, rfl, ?_, ?_, ?_, Marks.nil _ _, rfl⟩
          · have := Boxed.new (w.alloc (.cells (zerosA (wd + 1)) 5)) 25 (.slice (some ⟨w.heap.size, 0, none⟩) (wd + 1) (wd + 1))
            rwa [World.size_alloc] at this
          · have := (Blk.new w 5 (zerosA (wd + 1))).alloc (.cells #[.slice (some ⟨w.heap.size, 0, none⟩) (wd + 1) (wd + 1)] 25)
            rwa [zerosA_row] at this ⊢
          · exact ((Below.refl _ w).alloc (Nat.le_refl _) _).alloc (by simp) _
        · rintro a wr ⟨k, Ds, u34, u10, u35, u36, u37, u38, u39, u40, u41, u42, u43, u55, hk, rfl, hbox, hblk, hBw, hmarks, rfl⟩
          have hgl := hbox.lt
          have hcb := hbox.cell
          by_cases hlt : k < n
          · obtain ⟨b, off, rfl, hbb, hc0⟩ := h.at_ (by omega)
            obtain ⟨Ai, ni, ci, hci, hkey⟩ := hc0 k (by rw [hlen.out]; exact hlt)
            have hci' : wr.cell? ⟨b, off + k, none⟩ = some (.slice Ai ni ci) := (hBw.cell (p := ⟨b, off + k, none⟩) (by show b < _; omega)).trans hci
            clear hc0 hci
            gi_wp2_with (gi_at_call 20; refine (callsIn_wide.2 (probesF_any _ _ _ _ _ _)).mono ?_; rintro e w' ⟨rfl, rfl⟩)
            have b1 := ((Boxed.new wr 25 (.slice Ai ni ci)).alloc (.cells #[.int .i64 (kk : Int)] 3)).alloc (.cells #[.int .u32 (8 * (wd : Int))] 32)
            have b2 := (Boxed.new (wr.alloc (.cells #[.slice Ai ni ci] 25)) 3 (.int .i64 (kk : Int))).alloc (.cells #[.int .u32 (8 * (wd : Int))] 32)
            have b3 := Boxed.new ((wr.alloc (.cells #[.slice Ai ni ci] 25)).alloc (.cells #[.int .i64 (kk : Int)] 3)) 32 (.int .u32 (8 * (wd : Int)))
            simp only [World.size_alloc] at b2 b3
            have hB1 := (((Below.refl wr.heap.size wr).alloc (Nat.le_refl _) (.cells #[.slice Ai ni ci] 25)).alloc (by simp) (.cells #[.int .i64 (kk : Int)] 3)).alloc (by simp; omega) (.cells #[.int .u32 (8 * (wd : Int))] 32)
            obtain ⟨W0, hW0⟩ : ∃ W0, ((wr.alloc (.cells #[.slice Ai ni ci] 25)).alloc (.cells #[.int .i64 (kk : Int)] 3)).alloc (.cells #[.int .u32 (8 * (wd : Int))] 32) = W0 := ⟨_, rfl⟩
            have hsz : W0.heap.size = wr.heap.size + 3 := by rw [← hW0]; simp
            rw [hW0] at b1 b2 b3 hB1 ⊢
            clear hW0
            have hsw := hBw.size
            have hBW0 : Below w.heap.size w W0 := hBw.trans (hB1.mono hsw)
            have hbox0 : Boxed W0 (w.heap.size + 1) 25 (.slice (some ⟨w.heap.size, 0, none⟩) (wd + 1) (wd + 1)) := (hB1.block _ hgl).trans hbox
            have hblk0 := hblk.below hB1 hblk.lt
            have hmk0 : Marks W0 w.heap.size Ds := hmarks.below hB1 (Nat.le_refl _)
            have hDlt : ∀ D ∈ Ds, D < W0.heap.size := fun D hD => hmk0.lt hD
            have c3 := b3.cell
            rw [← cast8] at c3
            have hkeys : Bs W0 wr.heap.size Ai ni ci (kss[k]'(by rw [hlen.out]; exact hlt)) := ((hkey.more hB).below hBw).more hsw |>.below hB1
            refine wpIn_rangeFunc_ownG (n := 9) rfl (by omega) (gf := 25) (lb := #[.pointer (some ⟨wr.heap.size, 0, none⟩), .pointer (some ⟨wr.heap.size + 1, 0, none⟩), .pointer (some ⟨wr.heap.size + 1 + 1, 0, none⟩)]) rfl trivial (enters_of Try.func25 (by kernel_rfl) rfl)
              (probes_stops (9 - 1) (by omega) wr.heap.size (wr.heap.size + 1) (wr.heap.size + 1 + 1) wr.heap.size (kss[k]'(by rw [hlen.out]; exact hlt)) Ai ni ci kk (8 * wd) (by omega) hb8 (by omega) W0 (by omega) (by omega) (by omega) (by omega) b1.cell b2.cell c3 hkeys)
              keepAt_t (keepAt_b (by omega)) (Below.refl _ _) (fun _ => rfl)
              (fun pre W => ((Boxed W (w.heap.size + 1) 25 (.slice (some ⟨w.heap.size, 0, none⟩) (wd + 1) (wd + 1)) ∧ Blk W w.heap.size 5 (rowA (setAll (fillAll (8 * wd) hb8 kk (List.replicate wd 0) (kss.take k)) pre))) ∧ Marks W w.heap.size Ds) ∧ Below w.heap.size w W)
              (fun _ _ _ => False)
              (OwnFrom.and (OwnFrom.and (OwnFrom.and (Own.from (boxed_own _ _ _) _) (Own.from (Blk.own _ _ _) _)) (marks_own _ _ _ hDlt)) (ownFrom_below (Nat.le_refl _) (by omega)))
              (fun _ _ _ _ _ hs _ _ => hs)
              ⟨⟨⟨hbox0, hblk0⟩, hmk0⟩, hBW0⟩
              (fun x => { tmps := #[.slice (some ⟨b, off, none⟩) n c, .int .i64 (p : Int), undef, undef, .slice none 0 0, .int .i64 0, .int .i64 (wd : Int), .pointer (some ⟨w.heap.size + 1, 0, none⟩), .int .i64 (kk : Int), undef, .slice Ai ni ci, .int .u32 x.1, .int .i64 (p : Int), .bool false, .bool false, .int .i64 (p : Int), .bool false, .bool false, .int .i64 (p : Int), .slice (some ⟨b, off, none⟩) n c, .int .i64 (n : Int), .int .i64 (m : Int), .int .i64 (M : Int), .int .i64 ((M : Int) + 7), .int .i64 (wd : Int), .int .i64 (wd : Int), .bool (decide (16777216 < (wd : Int))), .int .i64 (wd : Int), .int .i64 ((wd : Int) + 1), .slice (some ⟨w.heap.size, 0, none⟩) (wd + 1) (wd + 1), .int .i64 (p : Int), .int .i64 (kk : Int), .slice (some ⟨b, off, none⟩) n c, .int .i64 (n : Int), .int .i64 (k : Int), .bool true, .pointer (some ⟨b, off + k, none⟩), .slice Ai ni ci, .slice Ai ni ci, .int .i64 (kk : Int), .int .i64 (wd : Int), .int .i64 (8 * (wd : Int)), .int .u32 (8 * (wd : Int)), .func (.func 25) #[] #[.pointer (some ⟨wr.heap.size, 0, none⟩), .pointer (some ⟨wr.heap.size + 1, 0, none⟩), .pointer (some ⟨wr.heap.size + 1 + 1, 0, none⟩)], .int .u32 x.1, undef, undef, undef, undef, undef, undef, undef, undef, undef, undef, u55, undef, undef, undef, undef, undef, undef], defers := [] })
              ?assign ?body ?done ?stop
            case assign =>
              intro l x W K hK
              simp only [encP]
              gi_wp2
              exact hK
            case body =>
              rintro l pre ⟨q, hq0, hq1⟩ W ⟨⟨⟨hbox1, hblk1⟩, hmk1⟩, hBW1⟩ _
              have cB := hbox1.cell
              obtain ⟨Y, hY⟩ : ∃ Y, Y = setAll (fillAll (8 * wd) hb8 kk (List.replicate wd 0) (kss.take k)) pre := ⟨_, rfl⟩
              have hYl : Y.length = wd := by rw [hY, setAll_length, fillAll_length, List.length_replicate]
              have hqi : (q / 8).toNat < Y.length := by omega
              have hcq : W.cell? ⟨w.heap.size, (q / 8).toNat, none⟩ = some (.int .u8 (Y[(q / 8).toNat].toNat : Int)) := by
                rw [hblk1.cell, ← hY]; exact rowA_at Y _ hqi
              have hfq : W.frozen? ⟨w.heap.size, (q / 8).toNat, none⟩ = false := hblk1.frozen _
              obtain ⟨kq, hkq⟩ : ∃ kq, kq = Y[(q / 8).toNat] := ⟨_, rfl⟩
              rw [← hkq] at hcq
              have hql := u8_lt kq
              have HY := hide hY
              have HYl := hide hYl
              have Hkq := hide hkq
              clear hY hYl hkq
              gi_wp2
              have hv : (Value.int .u8 (bits BinOp.or IntKind.u8 (kq.toNat : Int) (2 ^ (q % 8).toNat % 256))) = b8 (UInt8.ofNat (kq.toNat ||| 2 ^ (q % 8).toNat)) := by
                rw [or_bit kq _ (by omega), b8]
              have hset : Y.set (q / 8).toNat (UInt8.ofNat (kq.toNat ||| 2 ^ (q % 8).toNat)) = setBit Y q := by
                unfold setBit
                rw [List.getD_eq_getElem?_getD, List.getElem?_eq_getElem hqi, Option.getD_some, ← Hkq.out]
              rw [hv]
              have hnew := hblk1.put (q / 8).toNat (b8 (UInt8.ofNat (kq.toNat ||| 2 ^ (q % 8).toNat)))
              rw [← HY.out, rowA_set Y _ _ hqi, hset] at hnew
              refine ⟨(KeepsOthers.setCell _ _ _).from _, ?_, ⟨⟨⟨?_, ?_⟩, hmk1.setCell _ _⟩, hBW1.setCell (p := ⟨w.heap.size, (q / 8).toNat, none⟩) (Nat.le_refl _) _⟩⟩
              · exact Below.heap_setCell _ _ _ _ (by show wr.heap.size + 1 + 1 ≠ w.heap.size; omega)
              · exact (Below.heap_setCell _ _ _ _ (by show w.heap.size + 1 ≠ w.heap.size; omega)).trans hbox1
              · rw [setAll_snoc, ← HY.out]; exact hnew
            case done =>
              rintro D ys W hD rfl ⟨⟨⟨hbox1, hblk1⟩, hmk1⟩, hBW1⟩ hK
              gi_wp2
              refine ⟨⟨k + 1, D :: Ds, _, _, _, _, _, _, _, _, _, _, _, _, by omega, by simp, hbox1, ?_, hBW1, hmk1.cons hK (by omega) (fun hm => by have := hDlt D hm; omega), rfl⟩, by simp [intOf]; omega⟩
              rw [take_snoc' kss k (by rw [hlen.out]; exact hlt), fillAll_snoc]
              exact hblk1
            case stop =>
              rintro D c pre W _ _ h _
              exact h.elim
          · obtain rfl : k = n := by omega
            have hXl : (fillAll (8 * wd) hb8 kk (List.replicate wd 0) (kss.take k)).length = wd := by rw [fillAll_length, List.length_replicate]
            have htk : kss.take k = kss := List.take_of_length_le (by rw [hlen.out]; exact Nat.le_refl _)
            rw [htk] at hblk hXl
            have hcw : wr.cell? ⟨w.heap.size, wd, none⟩ = some (.int .u8 0) := by rw [hblk.cell]; exact rowA_last _ _ hXl
            have hfw : wr.frozen? ⟨w.heap.size, wd, none⟩ = false := hblk.frozen _
            have HX := hide hXl
            clear hXl htk
            gi_wp2
            have hkb : (Value.int .u8 (kk : Int)) = b8 (UInt8.ofNat kk) := by
              rw [b8, UInt8.toNat_ofNat_of_lt' (show kk < 256 by omega)]
            have hnew := hblk.put wd (b8 (UInt8.ofNat kk))
            rw [rowA_end _ _ HX.out] at hnew
            rw [hkb]
            refine leaves_marks Ds _ (hmarks.setCell _ _) (fun w' hw' => ?_)
            refine ⟨_, results_tmp2 rfl _ _ _, some ⟨w.heap.size, 0, none⟩, wd + 1, wd + 1, ?_, ?_, Shut.below (hBw.setCell (p := ⟨w.heap.size, wd, none⟩) (Nat.le_refl _) _) hw'⟩
            · rw [he.out]; rfl
            · have hfin : bytesOf p kss = fillAll (8 * wd) hb8 kk (List.replicate wd 0) kss ++ [UInt8.ofNat kk] := by
                have hke : (probesOf (p : Int)).toNat = kk := by rw [Hkk.out, Int.toNat_natCast]
                have hwo : wideOf (p : Int).toNat kss.length = wd := by rw [hlen.out, Int.toNat_natCast, Hwo.out]
                unfold bytesOf
                rw [if_pos (by rw [hlen.out]; exact he.out)]
                subst hke
                subst hwo
                rfl
              rw [hfin]
              refine Sl.of_blk (hw'.blk hnew) ?_ (Nat.le_refl _) (by omega)
              simp [HX.out]

end Go.Proofs.Ytkkjfehnkhhafaa
