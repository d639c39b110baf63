/-
  The walk of the law CodecReader: it answers true. Condition: the bytes, and the list of calls, read as such.
-/
import Derived.Test.YtdlbhppoknbnlaaRefRd
namespace Go.Proofs.Ytdlbhppoknbnlaa
open Go.RowKit

/-- The slice value reads as a list of pairs of numbers, two cells an element, in a block below B. -/
structure Rs (w : World) (B : Nat) (A : Option Addr) (n c : Nat) (rs : List (Int × Int)) : Prop where
  len : rs.length = n
  cap : n ≤ c
  reach : n ≤ 70368744177664
  row : rs ≠ [] → ∃ b off, A = some ⟨b, off, none⟩ ∧ b < B ∧ ∀ i p, rs[i]? = some p → w.cell? ⟨b, off + i * 2, none⟩ = some (.int .i64 p.1) ∧ w.cell? ⟨b, off + i * 2 + 1, none⟩ = some (.int .i64 p.2)
  num : ∀ p ∈ rs, -9223372036854775808 ≤ p.2 ∧ p.2 ≤ 9223372036854775807
theorem Rs.at_ {w : World} {B : Nat} {A : Option Addr} {n c : Nat} {rs : List (Int × Int)} (h : Rs w B A n c rs) (hk : 0 < n) : ∃ b off, A = some ⟨b, off, none⟩ ∧ b < B ∧ ∀ i (hi : i < rs.length), w.cell? ⟨b, off + i * 2, none⟩ = some (.int .i64 rs[i].1) ∧ w.cell? ⟨b, off + i * 2 + 1, none⟩ = some (.int .i64 rs[i].2) := by
  obtain ⟨b, off, e, hb, hc⟩ := h.row (by intro e; subst e; have := h.len; simp at this; omega)
  exact ⟨b, off, e, hb, fun i hi => hc i _ (List.getElem?_eq_getElem hi)⟩

/-- bytes whose block lies apart -/
def Apart (A : Option Addr) (g : Nat) : Prop := ∀ a, A = some a → a.block ≠ g
theorem Bs.apart {w w' : World} {B : Nat} {A : Option Addr} {n c : Nat} {ks : List UInt8} (h : Bs w B A n c ks) (hk : ∀ p : Addr, p.block < B → (∀ a, A = some a → p.block = a.block) → w'.cell? p = w.cell? p) : Bs w' B A n c ks := by
  refine ⟨Sl.len h, Sl.cap h, Sl.reach h, fun hne => ?_⟩
  obtain ⟨b, off, e, hb, hc⟩ := Sl.row h hne
  exact ⟨b, off, e, hb, fun j u hu => (hk _ hb (fun a ea => by rw [e] at ea; cases ea; rfl)).trans (hc j u hu)⟩
theorem Bs.farA {w : World} {B : Nat} {A : Option Addr} {n c g : Nat} {ks : List UInt8} (h : Bs w B A n c ks) (ha : Apart A g) (off : Nat) (u : Value) : Bs (w.setCell ⟨g, off, none⟩ u) B A n c ks := by
  cases A with
  | none =>
    obtain ⟨rfl, rfl⟩ := bs_none h
    exact Bs.nil _ _ _ _
  | some a => exact h.apart fun p _ hp => World.cell?_setCell_other w _ p u (fun e => ha a rfl (by rw [← hp a rfl, ← e]))
theorem Bs.grownA {w w' : World} {B : Nat} {A : Option Addr} {n c g : Nat} {ks : List UInt8} (h : Bs w B A n c ks) (ha : Apart A g) (hg : w.grownBy w' (some g)) (hB : B ≤ w.heap.size) : Bs w' B A n c ks := by
  cases A with
  | none =>
    obtain ⟨rfl, rfl⟩ := bs_none h
    exact Bs.nil _ _ _ _
  | some a => exact h.apart fun p hp hpa => World.cell?_of_block (hg.block p.block (by omega) (fun e => ha a rfl (by rw [← hpa a rfl]; injection e)))

def Fresh2 (w : World) (ks : List UInt8) (e : Ending) (w' : World) : Prop :=
  ∃ R A c, e = .returned (.pointer (some ⟨R, 0, none⟩)) ∧ w.heap.size ≤ R ∧ Rdr w' R A ks.length c 0 0 ∧ Bs w' R A ks.length c ks ∧ (∀ a, A = some a → w.heap.size ≤ a.block ∧ a.block < R) ∧ Below w.heap.size w w'
set_option maxRecDepth 100000 in
theorem new_any2 (ks : List UInt8) (A : Option Addr) (n c B : Nat) (w : World) (h : Bs w B A n c ks) (hB : B ≤ w.heap.size) :
    Calls Try.prog 22 #[.slice A n c] w (Fresh2 w ks) := by
  have hr := h.reach
  have hl := hide h.len
  go_enter Try.func22, Try.ntmps22
  go_wp2_with fail
  refine (clone_any ks A n c B w h hB).mono ?_
  rintro e w1 ⟨v, rfl, hm, hB1⟩
  obtain ⟨MA, mc, rfl, hb, _, ha⟩ := Mine.bs hm (by rw [hl.out]; exact hr)
  clear hm
  go_wp2
  go_ret
  exact ⟨w1.heap.size, MA, mc, rfl, hB1.size, Blk.new w1 98 _, hb.alloc (Nat.le_refl _) _, fun a ea => by obtain ⟨g, rfl, hg, hg2⟩ := ha a ea; exact ⟨hg, hg2⟩, hB1.alloc hB1.size _⟩

theorem nxt_le {α : Type} (zero : α) (r : Except Int (α × Nat)) (k n : Nat) (er : Int) (hk : k ≤ n) (hr : ∀ v m, r = .ok (v, m) → m ≤ n - k) : (nxt zero r k er).2.1 ≤ n := by
  unfold nxt
  split
  · exact hk
  · split
    · rename_i v m
      have := hr v m rfl
      show k + m ≤ n
      omega
    · exact hk

theorem nxt_flen (r : Except Int (List UInt8 × Nat)) (k b : Nat) (er : Int) (hr : ∀ f m, r = .ok (f, m) → f.length ≤ b) : (nxt [] r k er).1.length ≤ b := by
  unfold nxt
  split
  · exact Nat.zero_le _
  · split
    · rename_i v m
      exact hr v m rfl
    · exact Nat.zero_le _
theorem Mine.bsX {e : TypeId} {w : World} {base : Nat} {v : Value} {ks : List UInt8} (h : Mine e w base v ks) (hr : ks.length ≤ 140737488351232) : ∃ A L c, v = .slice A L c ∧ Bs w w.heap.size A L c ks ∧ ∀ a, A = some a → base ≤ a.block := by
  obtain ⟨A, c, e1, e2, _, e3⟩ := h.bs hr
  exact ⟨A, _, c, e1, e2, fun a ea => by obtain ⟨g, rfl, hg, _⟩ := e3 a ea; exact hg⟩

set_option maxRecDepth 100000 in
set_option maxHeartbeats 40000000 in
theorem reader_any (ks : List UInt8) (A0 : Option Addr) (l c0 : Nat) (rs : List (Int × Int)) (A1 : Option Addr) (q c1 : Nat) (w : World) (h : Bs w w.heap.size A0 l c0 ks) (hrs : Rs w w.heap.size A1 q c1 rs) :
    Calls Try.prog 6 #[.slice A0 l c0, .slice A1 q c1] w fun e w' => e = .returned (.bool true) ∧ Below w.heap.size w w' := by
  have hlen := hide h.len
  have hql := hide hrs.len
  have hqr := hrs.reach
  go_enter Try.func6, Try.ntmps6
  go_wp2_with fail
  refine (awake_any w).mono ?_
  rintro e w0 ⟨rfl, hB0⟩
  by_cases hl : 5000 < l
  · have hl' : (5000 : Int) < (l : Int) := by omega
    go_wp2
    go_ret
    exact ⟨rfl, hB0⟩
  have hl' : ¬ (5000 : Int) < (l : Int) := by omega
  by_cases hq : 200 < q
  · have hq' : (200 : Int) < (q : Int) := by omega
    go_wp2
    go_ret
    exact ⟨rfl, hB0⟩
  have hq' : ¬ (200 : Int) < (q : Int) := by omega
  have hb0 := (h.below hB0).more hB0.size
  obtain ⟨v5, w1, r5, hm1, hg1, _⟩ := append_mine (P := Try.prog) 24 Try.underlying24 info5 (Mine.nil 5 w0 w0.heap.size) (Nat.le_refl _) hb0 (by simp; omega)
  have hB1 : Below w0.heap.size w0 w1 := (Mine.nil 5 w0 w0.heap.size).grown hg1 (Nat.le_refl _) (Nat.le_refl _)
  rw [List.nil_append] at hm1
  obtain ⟨A2, L2, c2, rfl, hL2, hb2⟩ := Mine.bsL hm1 (by rw [hlen.out]; omega)
  rw [hlen.out] at hL2
  obtain rfl : l = L2 := hL2.symm
  have hBw1 := hB0.trans (hB1.mono hB0.size)
  go_wp2_with (at_builtin; refine wpList_append_run rfl _ _ 24 rfl _ _ _ rfl rfl r5 ?_)
  refine (new_any2 ks A2 l c2 w1.heap.size w1 hb2 (Nat.le_refl _)).mono ?_
  rintro e w2 ⟨R, A, c, rfl, hR, hr, hb, ha, hB2⟩
  rw [hlen.out] at hr hb
  have hBw2 := hBw1.trans (hB2.mono hBw1.size)
  have hs1 := hBw1.size
  have hm2 := hm1.below hB2 (Nat.le_refl _)
  go_wp2_with fail
  obtain ⟨g, hgA, hgl, cur, hcur, hcc⟩ : ∃ g, (0 < l → A2 = some ⟨g, 0, none⟩) ∧ (0 < l → w0.heap.size ≤ g ∧ g < w1.heap.size) ∧ ∃ cur, (0 < l → Blk w2 g 5 cur) ∧ ∀ j, j < l → ∃ x : Int, cur[j]? = some (.int .u8 x) := by
    rcases hm2.2 with ⟨_, h0⟩ | ⟨g, cap, cur, e, hb', hh, hnc, hr'⟩
    · rw [hlen.out] at h0
      exact ⟨0, fun h => by omega, fun h => by omega, #[], fun h => by omega, fun j hj => by omega⟩
    · injection e with e1 _ _
      have hgl := hm1.lt (g := g) (by rw [e1]; rfl)
      refine ⟨g, fun _ => e1, fun _ => hgl, cur, fun _ => hh, fun j hj => ?_⟩
      have hjl : j < ks.length := by rw [hlen.out]; exact hj
      have hcell := World.ownsRow.cells (show w2.ownsRow _ 5 1 _ _ _ from hm2) (g := g) (by rw [e1]; rfl) j (b8 ks[j]) (by simp [List.getElem?_eq_getElem hjl])
      rw [Addr.add_lit] at hcell
      simp only [Nat.zero_add] at hcell
      rw [Blk.cell (show Blk w2 g 5 cur from hh)] at hcell
      exact ⟨_, hcell⟩
  have hBw02 := hB1.trans (hB2.mono hB1.size)
  have hs0 := hB0.size
  clear hm2 hm1 r5 hb2 hL2
  go_loopw [30] (fun t30 wq => ∃ (i : Nat) (cur' : Array Value), i ≤ l ∧ t30 = .int .i64 (i : Int) ∧ Rdr wq R A l c 0 0 ∧ Bs wq R A l c ks ∧ (0 < l → Blk wq g 5 cur') ∧ (∀ j, j < l → ∃ x : Int, cur'[j]? = some (.int .u8 x)) ∧ Below w0.heap.size w0 wq ∧ w2.heap.size ≤ wq.heap.size) (fun t30 _ => l - (intOf t30).toNat)
  case atStart => exact ⟨0, cur, by omega, rfl, hr, hb, hcur, hcc, hBw02, Nat.le_refl _⟩
  case round =>
    obtain ⟨i, cur', hi, rfl, hr', hb', hcur', hcc', hBr, hsr⟩ := hrel
    by_cases hlt : i < l
    · have hpos : 0 < l := by omega
      obtain rfl := hgA hpos
      have hg2 := hgl hpos
      have hblk := hcur' hpos
      obtain ⟨x, hx⟩ := hcc' i hlt
      have hci : wr.cell? ⟨g, i, none⟩ = some (.int .u8 x) := by rw [hblk.cell]; exact hx
      have hzi := hblk.frozen i
      have hAp : Apart A g := fun a ea => by have := ha a ea; omega
      clear hcur' hgA hcur hcc
      go_wp2
      go_roundw
      case rel => exact ⟨i + 1, cur'.setIfInBounds i (.int .u8 255), by omega, by simp, hr'.far (p := ⟨g, i, none⟩) (by simp; omega) _, hb'.farA hAp i _, fun _ => hblk.put i _, fun j hj => by
          by_cases hij : j = i
          · subst hij
            exact ⟨255, by rw [Array.getElem?_setIfInBounds_self_of_lt (by exact (Array.getElem?_eq_some_iff.1 hx).1)]⟩
          · obtain ⟨y, hy⟩ := hcc' j hj
            exact ⟨y, by rw [Array.getElem?_setIfInBounds_ne (by omega)]; exact hy⟩, hBr.setCell (p := ⟨g, i, none⟩) (by simp; omega) _, by simpa using hsr⟩
      case measure => simp [intOf]; omega
    · clear hcur' hcc' hcur hcc hgA hgl hr hb hB2 hBw2 hBw02
      have hBwr := hB0.trans (hBr.mono hB0.size)
      have hRl := hr'.lt
      have hbk : Bs wr wr.heap.size A0 l c0 ks := ((h.below hBwr)).more hBwr.size
      obtain ⟨v8, w4, r8, hm4, hg4, _⟩ := append_mine (P := Try.prog) 24 Try.underlying24 info5 (Mine.nil 5 wr wr.heap.size) (Nat.le_refl _) hbk (by simp; omega)
      have hB4 : Below wr.heap.size wr w4 := (Mine.nil 5 wr wr.heap.size).grown hg4 (Nat.le_refl _) (Nat.le_refl _)
      rw [List.nil_append] at hm4
      obtain ⟨A5, c5, rfl, hb5, _, ha5⟩ := Mine.bs hm4 (by rw [hlen.out]; omega)
      rw [hlen.out] at hb5
      simp only [hlen.out] at r8
      have hs4 := hB4.size
      go_wp2_with (at_builtin; refine wpList_append_run rfl _ _ 24 rfl _ _ _ rfl rfl r8 ?_)
      have hr4 := Blk.alloc (hr'.below hB4 hRl) (.cells #[.slice A5 l c5, .int .i64 0, .int .i64 0] 51)
      have hb4 := (hb'.below (hB4.mono (by omega))).alloc (by omega) (.cells #[.slice A5 l c5, .int .i64 0, .int .i64 0] 51)
      have hO := Blk.new w4 51 #[.slice A5 l c5, .int .i64 0, .int .i64 0]
      have hbO := hb5.alloc (Nat.le_refl _) (.cells #[.slice A5 l c5, .int .i64 0, .int .i64 0] 51)
      have hAR : Apart A w4.heap.size := fun a ea => by have := ha a ea; omega
      have hAO : Apart A5 R := fun a ea => by obtain ⟨g', rfl, h1, _⟩ := ha5 a ea; simp; omega
      have hBx := (hBwr.trans (hB4.mono hBwr.size)).alloc (by have := hBwr.size; omega) (.cells #[.slice A5 l c5, .int .i64 0, .int .i64 0] 51)
      have hRO : R < w4.heap.size := by omega
      have hOw : w.heap.size ≤ w4.heap.size := by have := hBwr.size; omega
      have hRw : w.heap.size ≤ R := by omega
      generalize w4.heap.size = O at *
      generalize w4.alloc (.cells #[.slice A5 l c5, .int .i64 0, .int .i64 0] 51) = W0 at *
      clear hB4 hr' hb' hbk hg4 hm4 hb5 ha5 r8 hBr hBwr hsr hB0 hB1 hBw1 hg1 hb0
      go_loopw [43] (fun t43 wq => ∃ (i k : Nat) (er : Int), i ≤ q ∧ t43 = .int .i64 (i : Int) ∧ k ≤ l ∧ Rdr wq R A l c (k : Int) er ∧ Bs wq R A l c ks ∧ Rfr wq O A5 l c5 (k : Int) er ∧ Bs wq O A5 l c5 ks ∧ Below w.heap.size w wq) (fun t43 _ => q - (intOf t43).toNat)
      case atStart => exact ⟨0, 0, 0, by omega, rfl, by omega, hr4, hb4, hO, hbO, hBx⟩
      case round =>
        clear hr4 hb4 hO hbO hBx
        obtain ⟨j, k, er, hj, rfl, hk, hr, hb, hO, hbO, hBw⟩ := hrel
        by_cases hjq : j < q
        · have hjr : j < rs.length := by rw [hql.out]; exact hjq
          obtain ⟨b, off, rfl, hbb, hcell⟩ := hrs.at_ (by omega)
          obtain ⟨x0, x1⟩ := hcell j hjr
          have hN := hrs.num rs[j] (List.getElem_mem hjr)
          have y0 := (hBw.cell (p := ⟨b, off + j * 2, none⟩) hbb).trans x0
          have y1 := (hBw.cell (p := ⟨b, off + j * 2 + 1, none⟩) hbb).trans x1
          clear hcell x0 x1
          generalize rs[j].1 = K at *
          generalize rs[j].2 = N at *
          have hx5 := Blk.new wr 53 #[.int .i64 K, .int .i64 N]
          have hr5 := Blk.alloc hr (.cells #[.int .i64 K, .int .i64 N] 53)
          have hb5 := hb.alloc (by have := hr.lt; omega) (.cells #[.int .i64 K, .int .i64 N] 53)
          have hO5 := Blk.alloc hO (.cells #[.int .i64 K, .int .i64 N] 53)
          have hbO5 := hbO.alloc (by have := hO.lt; omega) (.cells #[.int .i64 K, .int .i64 N] 53)
          have hBw5 := hBw.alloc hBw.size (.cells #[.int .i64 K, .int .i64 N] 53)
          have hRX := hr.lt
          have hOX := hO.lt
          have hs5 : (wr.alloc (.cells #[.int .i64 K, .int .i64 N] 53)).heap.size = wr.heap.size + 1 := by simp
          have hkk : ∀ (r : Nat), r ≤ (ks.drop k).length → r ≤ l - k := fun r hr => by rw [List.length_drop, hlen.out] at hr; exact hr
          have hcase : K = 0 ∨ K = 1 ∨ K = 2 ∨ K = 3 ∨ (¬ K = 0 ∧ ¬ K = 1 ∧ ¬ K = 2 ∧ ¬ K = 3) := by omega
          rcases hcase with rfl | rfl | rfl | rfl | ⟨n0, n1, n2, n3⟩
          case' inl =>
            have G1 := (show Calls Try.prog 23 _ _ (Went _ R A l c (fun v _ => v = .int .u64 ((nxt 0 (readU (ks.drop k)) k er).1 : Int)) (nxt 0 (readU (ks.drop k)) k er).2.1 (nxt 0 (readU (ks.drop k)) k er).2.2) by rw [← nxtU_nxt]; exact ruint_any R l c k er A ks _ hr5 hb5 hk)
            have G2 := fun (W : World) (h1 : Rfr W O A5 l c5 (k : Int) er) (h2 : Bs W O A5 l c5 ks) => refrd_u O l c5 k er A5 ks W h1 h2 hk
            have hk' := nxt_le 0 (readU (ks.drop k)) k l er hk (fun v m hv => hkk m (readU_len hv))
            generalize nxt 0 (readU (ks.drop k)) k er = pp at G1 G2 hk'
            obtain ⟨F, k', er'⟩ := pp
            simp only at G1 G2 hk'
            have G1 := hide G1
            have G2 := hide G2
            go_wp2_with fail
            refine G1.out.mono ?_
            rintro e w6 ⟨hg6, hr6, v6, rfl, rfl⟩
            have hO6 : Rfr w6 O A5 l c5 (k : Int) er := Blk.grown hO5 hg6 (by simp; omega)
            have hbO6 := hbO5.grownA hAO hg6 (by have := hO5.lt; omega)
            have hBw6 := hBw5.trans ((Below.refl w.heap.size _).grown hg6 hBw5.size (fun j ej => by cases ej; exact hRw))
            go_wp2_with fail
            refine (G2.out w6 hO6 hbO6).mono ?_
            rintro e w7 ⟨hg7, hO7, v7, rfl, rfl⟩
            have hbO7 := hbO6.below ((Below.refl O _).grown hg7 (by have := hO6.lt; omega) (fun j ej => by cases ej; exact Nat.le_refl _))
            have hr7 : Rdr w7 R A l c (k' : Int) er' := Blk.grown hr6 hg7 (by simp; omega)
            have hb7 := (hb5.grownA (fun a ea => by have := ha a ea; omega) hg6 (by have := hr5.lt; omega)).grownA hAR hg7 (by have := hr6.lt; omega)
            have hBw7 := hBw6.trans ((Below.refl w.heap.size _).grown hg7 hBw6.size (fun j ej => by cases ej; exact hOw))
            clear G1 G2
            go_wp2
          case' inr.inl =>
            have G1 := rint_any R l c k er A ks _ hr5 hb5 hk
            have G2 := fun (W : World) (h1 : Rfr W O A5 l c5 (k : Int) er) (h2 : Bs W O A5 l c5 ks) => refrd_i O l c5 k er A5 ks W h1 h2 hk
            have hk' := nxt_le 0 (readI (ks.drop k)) k l er hk (fun v m hv => hkk m (readI_len hv))
            generalize nxt 0 (readI (ks.drop k)) k er = pp at G1 G2 hk'
            obtain ⟨F, k', er'⟩ := pp
            simp only at G1 G2 hk'
            have G1 := hide G1
            have G2 := hide G2
            go_wp2_with fail
            refine G1.out.mono ?_
            rintro e w6 ⟨hg6, hr6, v6, rfl, rfl⟩
            have hO6 : Rfr w6 O A5 l c5 (k : Int) er := Blk.grown hO5 hg6 (by simp; omega)
            have hbO6 := hbO5.grownA hAO hg6 (by have := hO5.lt; omega)
            have hBw6 := hBw5.trans ((Below.refl w.heap.size _).grown hg6 hBw5.size (fun j ej => by cases ej; exact hRw))
            go_wp2_with fail
            refine (G2.out w6 hO6 hbO6).mono ?_
            rintro e w7 ⟨hg7, hO7, v7, rfl, rfl⟩
            have hbO7 := hbO6.below ((Below.refl O _).grown hg7 (by have := hO6.lt; omega) (fun j ej => by cases ej; exact Nat.le_refl _))
            have hr7 : Rdr w7 R A l c (k' : Int) er' := Blk.grown hr6 hg7 (by simp; omega)
            have hb7 := (hb5.grownA (fun a ea => by have := ha a ea; omega) hg6 (by have := hr5.lt; omega)).grownA hAR hg7 (by have := hr6.lt; omega)
            have hBw7 := hBw6.trans ((Below.refl w.heap.size _).grown hg7 hBw6.size (fun j ej => by cases ej; exact hOw))
            clear G1 G2
            go_wp2
          case' inr.inr.inl =>
            have hs5 : (wr.alloc (.cells #[.int .i64 2, .int .i64 N] 53)).drew.heap.size = wr.heap.size + 1 := hs5
            have hb5 := hb5.below ((below_drew (wr.alloc (.cells #[.int .i64 2, .int .i64 N] 53))).mono (by have : (wr.alloc (.cells #[.int .i64 2, .int .i64 N] 53)).drew.heap.size = (wr.alloc (.cells #[.int .i64 2, .int .i64 N] 53)).heap.size := rfl; omega))
            have hbO5 := hbO5.below ((below_drew (wr.alloc (.cells #[.int .i64 2, .int .i64 N] 53))).mono (by have : (wr.alloc (.cells #[.int .i64 2, .int .i64 N] 53)).drew.heap.size = (wr.alloc (.cells #[.int .i64 2, .int .i64 N] 53)).heap.size := rfl; omega))
            have hr5 : Rdr (wr.alloc (.cells #[.int .i64 2, .int .i64 N] 53)).drew R A l c (k : Int) er := hr5
            have hO5 : Rfr (wr.alloc (.cells #[.int .i64 2, .int .i64 N] 53)).drew O A5 l c5 (k : Int) er := hO5
            have hBw5 : Below w.heap.size w (wr.alloc (.cells #[.int .i64 2, .int .i64 N] 53)).drew := hBw5.trans ((below_drew (wr.alloc (.cells #[.int .i64 2, .int .i64 N] 53))).mono hBw5.size)
            have G1 := rfixed_any R l c k er N A ks (wr.alloc (.cells #[.int .i64 2, .int .i64 N] 53)).drew hN.1 hN.2 hr5 hb5 hk
            have G2 := fun (W : World) (h1 : Rfr W O A5 l c5 (k : Int) er) (h2 : Bs W O A5 l c5 ks) => refrd_x O l c5 k er N A5 ks W hN.1 hN.2 h1 h2 hk
            have hk' := nxt_le 0 (readX (ks.drop k) N) k l er hk (fun v m hv => hkk m (readX_len hv))
            generalize nxt 0 (readX (ks.drop k) N) k er = pp at G1 G2 hk'
            obtain ⟨F, k', er'⟩ := pp
            simp only at G1 G2 hk'
            have G1 := hide G1
            have G2 := hide G2
            have e1 : (wr.alloc (.cells #[.int .i64 2, .int .i64 N] 53)).cell? ⟨wr.heap.size, 1, none⟩ = some (.int .i64 N) := hx5.cell 1
            go_wp2
            refine wp_region_held_drew (S := fun W => W.cell? ⟨wr.heap.size, 1, none⟩ = some (.int .i64 N)) (by kernel_rfl) (e1) (fun hHeld => ?_)
            refine wpAnyH_take (i := 0) (v := ?_) rfl (by kernel_rfl) (by kernel_rfl) (by kernel_rfl) (fun _ _ _ h => h) (Or.inl ⟨by kernel_rfl, ?_⟩) (by assumption) ?_
            rotate_left
            · (intro w hSw; (try dsimp only at hSw); go_simp; try with_reducible rfl)
            (try simp only [Act.put, List.getElem_toArray, List.getElem_cons_succ, List.getElem_cons_zero, List.setIfInBounds_toArray, List.set_cons_zero, List.set_cons_succ])
            refine wpAnyH_take (i := 1) (v := ?_) rfl (by kernel_rfl) (by kernel_rfl) (by kernel_rfl) (fun _ _ _ h => h) (Or.inl ⟨by kernel_rfl, ?_⟩) (by assumption) ?_
            rotate_left
            · (intro w hSw; (try dsimp only at hSw); go_simp; try with_reducible rfl)
            (try simp only [Act.put, List.getElem_toArray, List.getElem_cons_succ, List.getElem_cons_zero, List.setIfInBounds_toArray, List.set_cons_zero, List.set_cons_succ])
            refine wpAnyH_take (i := 2) (v := ?_) rfl (by kernel_rfl) (by kernel_rfl) (by kernel_rfl) (fun _ _ _ h => h) (Or.inl ⟨by kernel_rfl, ?_⟩) (by assumption) ?_
            rotate_left
            · (intro w hSw; (try dsimp only at hSw); go_simp; try with_reducible rfl)
            (try simp only [Act.put, List.getElem_toArray, List.getElem_cons_succ, List.getElem_cons_zero, List.setIfInBounds_toArray, List.set_cons_zero, List.set_cons_succ])
            refine wpAnyH_take (i := 4) (v := ?_) rfl (by kernel_rfl) (by kernel_rfl) (by kernel_rfl) (fun _ _ _ h => h) (Or.inl ⟨by kernel_rfl, ?_⟩) (by assumption) ?_
            rotate_left
            · (intro w hSw; (try dsimp only at hSw); go_simp; try with_reducible rfl)
            (try simp only [Act.put, List.getElem_toArray, List.getElem_cons_succ, List.getElem_cons_zero, List.setIfInBounds_toArray, List.set_cons_zero, List.set_cons_succ])
            refine wpAnyH_take (i := 5) (v := ?_) rfl (by kernel_rfl) (by kernel_rfl) (by kernel_rfl) (fun _ _ _ h => h) (Or.inl ⟨by kernel_rfl, ?_⟩) (by assumption) ?_
            rotate_left
            · (intro w hSw; (try dsimp only at hSw); go_simp; try with_reducible rfl)
            (try simp only [Act.put, List.getElem_toArray, List.getElem_cons_succ, List.getElem_cons_zero, List.setIfInBounds_toArray, List.set_cons_zero, List.set_cons_succ])
            refine wpAnyH_take (i := 6) (v := ?_) rfl (by kernel_rfl) (by kernel_rfl) (by kernel_rfl) (fun _ _ _ h => h) (Or.inl ⟨by kernel_rfl, ?_⟩) (by assumption) ?_
            rotate_left
            · (intro w hSw; (try dsimp only at hSw); go_simp; try with_reducible rfl)
            (try simp only [Act.put, List.getElem_toArray, List.getElem_cons_succ, List.getElem_cons_zero, List.setIfInBounds_toArray, List.set_cons_zero, List.set_cons_succ])
            refine wpAnyH_ready (rs := [3]) (by kernel_rfl) (by simp) (AllReadyH.cons rfl (fun K hK => ?_) AllReadyH.nil)
            go_simp
            refine G1.out.mono ?_
            rintro e w6 ⟨hg6, hr6, v6, rfl, rfl⟩
            have hO6 : Rfr w6 O A5 l c5 (k : Int) er := Blk.grown hO5 hg6 (by simp; omega)
            have hbO6 := hbO5.grownA hAO hg6 (by have := hO5.lt; omega)
            have hBw6 := hBw5.trans ((Below.refl w.heap.size _).grown hg6 hBw5.size (fun j ej => by cases ej; exact hRw))
            have e6 : w6.cell? ⟨wr.heap.size, 1, none⟩ = some (.int .i64 N) := (World.cell?_of_block (hg6.block wr.heap.size (by rw [hs5]; omega) (by simp; omega))).trans e1
            refine hK.out _ _ (e6) (fun hHeld => ?_)
            clear hK K
            (try simp only [Act.put, List.getElem_toArray, List.getElem_cons_succ, List.getElem_cons_zero, List.setIfInBounds_toArray, List.set_cons_zero, List.set_cons_succ])
            refine wpAnyH_ready (rs := [7]) (by kernel_rfl) (by simp) (AllReadyH.cons rfl (fun K hK => ?_) AllReadyH.nil)
            go_simp
            refine (G2.out w6 hO6 hbO6).mono ?_
            rintro e w7 ⟨hg7, hO7, v7, rfl, rfl⟩
            have hbO7 := hbO6.below ((Below.refl O _).grown hg7 (by have := hO6.lt; omega) (fun j ej => by cases ej; exact Nat.le_refl _))
            have hr7 : Rdr w7 R A l c (k' : Int) er' := Blk.grown hr6 hg7 (by simp; omega)
            have hb7 := (hb5.grownA (fun a ea => by have := ha a ea; omega) hg6 (by have := hr5.lt; omega)).grownA hAR hg7 (by have := hr6.lt; omega)
            have hBw7 := hBw6.trans ((Below.refl w.heap.size _).grown hg7 hBw6.size (fun j ej => by cases ej; exact hOw))
            have e7 : w7.cell? ⟨wr.heap.size, 1, none⟩ = some (.int .i64 N) := (World.cell?_of_block (hg7.block wr.heap.size (by have := hg6.size; rw [hs5] at this; omega) (by simp; omega))).trans e6
            refine hK.out _ _ (e7) (fun hHeld => ?_)
            clear hK K
            (try simp only [Act.put, List.getElem_toArray, List.getElem_cons_succ, List.getElem_cons_zero, List.setIfInBounds_toArray, List.set_cons_zero, List.set_cons_succ])
            refine wpAnyH_take (i := 8) (v := ?_) rfl (by kernel_rfl) (by kernel_rfl) (by kernel_rfl) (fun _ _ _ h => h) (Or.inl ⟨by kernel_rfl, ?_⟩) (by assumption) ?_
            rotate_left
            · (intro w hSw; (try dsimp only at hSw); go_simp; try with_reducible rfl)
            (try simp only [Act.put, List.getElem_toArray, List.getElem_cons_succ, List.getElem_cons_zero, List.setIfInBounds_toArray, List.set_cons_zero, List.set_cons_succ])
            refine wpAnyH_take (i := 9) (v := ?_) rfl (by kernel_rfl) (by kernel_rfl) (by kernel_rfl) (fun _ _ _ h => h) (Or.inl ⟨by kernel_rfl, ?_⟩) (by assumption) ?_
            rotate_left
            · (intro w hSw; (try dsimp only at hSw); go_simp; try with_reducible rfl)
            (try simp only [Act.put, List.getElem_toArray, List.getElem_cons_succ, List.getElem_cons_zero, List.setIfInBounds_toArray, List.set_cons_zero, List.set_cons_succ])
            refine wpAnyH_done (by kernel_rfl) ?_ _
            clear e1 e6 e7 G1 G2
            go_wp2
          case' inr.inr.inr.inl =>
            have hs5 : (wr.alloc (.cells #[.int .i64 3, .int .i64 N] 53)).drew.heap.size = wr.heap.size + 1 := hs5
            have hb5 := hb5.below ((below_drew (wr.alloc (.cells #[.int .i64 3, .int .i64 N] 53))).mono (by have : (wr.alloc (.cells #[.int .i64 3, .int .i64 N] 53)).drew.heap.size = (wr.alloc (.cells #[.int .i64 3, .int .i64 N] 53)).heap.size := rfl; omega))
            have hbO5 := hbO5.below ((below_drew (wr.alloc (.cells #[.int .i64 3, .int .i64 N] 53))).mono (by have : (wr.alloc (.cells #[.int .i64 3, .int .i64 N] 53)).drew.heap.size = (wr.alloc (.cells #[.int .i64 3, .int .i64 N] 53)).heap.size := rfl; omega))
            have hr5 : Rdr (wr.alloc (.cells #[.int .i64 3, .int .i64 N] 53)).drew R A l c (k : Int) er := hr5
            have hO5 : Rfr (wr.alloc (.cells #[.int .i64 3, .int .i64 N] 53)).drew O A5 l c5 (k : Int) er := hO5
            have hBw5 : Below w.heap.size w (wr.alloc (.cells #[.int .i64 3, .int .i64 N] 53)).drew := hBw5.trans ((below_drew (wr.alloc (.cells #[.int .i64 3, .int .i64 N] 53))).mono hBw5.size)
            have G1 := rfield_any R l c k er A ks (wr.alloc (.cells #[.int .i64 3, .int .i64 N] 53)).drew hr5 hb5 hk
            have G2 := fun (W : World) (h1 : Rfr W O A5 l c5 (k : Int) er) (h2 : Bs W O A5 l c5 ks) => refrd_f O l c5 k er A5 ks W h1 h2 hk
            have hk' := nxt_le [] (readF (ks.drop k)) k l er hk (fun v m hv => hkk m ((readF_len hv).1))
            have hFl := nxt_flen (readF (ks.drop k)) k 1048576 er (fun f m hv => (readF_len hv).2)
            generalize nxt [] (readF (ks.drop k)) k er = pp at G1 G2 hk' hFl
            obtain ⟨F, k', er'⟩ := pp
            simp only at G1 G2 hk' hFl
            have G1 := hide G1
            have G2 := hide G2
            go_wp2
            refine wp_region_held_drew (S := fun _ => True) (by kernel_rfl) (trivial) (fun hHeld => ?_)
            refine wpAnyH_take (i := 0) (v := ?_) rfl (by kernel_rfl) (by kernel_rfl) (by kernel_rfl) (fun _ _ _ h => h) (Or.inl ⟨by kernel_rfl, ?_⟩) (by assumption) ?_
            rotate_left
            · (intro w hSw; (try dsimp only at hSw); go_simp; try with_reducible rfl)
            (try simp only [Act.put, List.getElem_toArray, List.getElem_cons_succ, List.getElem_cons_zero, List.setIfInBounds_toArray, List.set_cons_zero, List.set_cons_succ])
            refine wpAnyH_take (i := 3) (v := ?_) rfl (by kernel_rfl) (by kernel_rfl) (by kernel_rfl) (fun _ _ _ h => h) (Or.inl ⟨by kernel_rfl, ?_⟩) (by assumption) ?_
            rotate_left
            · (intro w hSw; (try dsimp only at hSw); go_simp; try with_reducible rfl)
            (try simp only [Act.put, List.getElem_toArray, List.getElem_cons_succ, List.getElem_cons_zero, List.setIfInBounds_toArray, List.set_cons_zero, List.set_cons_succ])
            refine wpAnyH_ready (rs := [1]) (by kernel_rfl) (by simp) (AllReadyH.cons rfl (fun K hK => ?_) AllReadyH.nil)
            go_simp
            refine G1.out.mono ?_
            rintro e w6 ⟨hg6, hr6, v6, rfl, hm6⟩
            obtain ⟨A6, L6, d6, rfl, hb6v, ha6⟩ := Mine.bsX hm6 (by omega)
            have t6 := strAt hb6v
            have hO6 : Rfr w6 O A5 l c5 (k : Int) er := Blk.grown hO5 hg6 (by simp; omega)
            have hbO6 := hbO5.grownA hAO hg6 (by have := hO5.lt; omega)
            have hBw6 := hBw5.trans ((Below.refl w.heap.size _).grown hg6 hBw5.size (fun j ej => by cases ej; exact hRw))
            refine hK.out _ _ (trivial) (fun hHeld => ?_)
            clear hK K
            (try simp only [Act.put, List.getElem_toArray, List.getElem_cons_succ, List.getElem_cons_zero, List.setIfInBounds_toArray, List.set_cons_zero, List.set_cons_succ])
            refine wpAnyH_ready (rs := [2, 4]) (by kernel_rfl) (by simp) (AllReadyH.cons rfl (fun K hK => ?_) (AllReadyH.cons rfl (fun K hK => ?_) AllReadyH.nil))
            go_simp
            refine hK.out _ _ (trivial) (fun hHeld => ?_)
            clear hK K
            (try simp only [Act.put, List.getElem_toArray, List.getElem_cons_succ, List.getElem_cons_zero, List.setIfInBounds_toArray, List.set_cons_zero, List.set_cons_succ])
            refine wpAnyH_ready (rs := [4]) (by kernel_rfl) (by simp) (AllReadyH.cons rfl (fun K hK => ?_) AllReadyH.nil)
            go_simp
            refine (G2.out w6 hO6 hbO6).mono ?_
            rintro e w7 ⟨hg7, hO7, v7, rfl, hm7⟩
            obtain ⟨A7, L7, d7, rfl, hb7v, ha7⟩ := Mine.bsX hm7 (by omega)
            have t7 := strAt hb7v
            have t6' := strAt (hb6v.grownA (fun a ea => by have := ha6 a ea; rw [hs5] at this; omega) hg7 (Nat.le_refl _))
            have hbO7 := hbO6.below ((Below.refl O _).grown hg7 (by have := hO6.lt; omega) (fun j ej => by cases ej; exact Nat.le_refl _))
            have hr7 : Rdr w7 R A l c (k' : Int) er' := Blk.grown hr6 hg7 (by simp; omega)
            have hb7 := (hb5.grownA (fun a ea => by have := ha a ea; omega) hg6 (by have := hr5.lt; omega)).grownA hAR hg7 (by have := hr6.lt; omega)
            have hBw7 := hBw6.trans ((Below.refl w.heap.size _).grown hg7 hBw6.size (fun j ej => by cases ej; exact hOw))
            refine hK.out _ _ (trivial) (fun hHeld => ?_)
            clear hK K
            (try simp only [Act.put, List.getElem_toArray, List.getElem_cons_succ, List.getElem_cons_zero, List.setIfInBounds_toArray, List.set_cons_zero, List.set_cons_succ])
            refine wpAnyH_ready (rs := [5]) (by kernel_rfl) (by simp) (AllReadyH.cons rfl (fun K hK => ?_) AllReadyH.nil)
            go_simp
            refine hK.out _ _ (trivial) (fun hHeld => ?_)
            clear hK K
            (try simp only [Act.put, List.getElem_toArray, List.getElem_cons_succ, List.getElem_cons_zero, List.setIfInBounds_toArray, List.set_cons_zero, List.set_cons_succ])
            refine wpAnyH_take (i := 6) (v := ?_) rfl (by kernel_rfl) (by kernel_rfl) (by kernel_rfl) (fun _ _ _ h => h) (Or.inl ⟨by kernel_rfl, ?_⟩) (by assumption) ?_
            rotate_left
            · (intro w hSw; (try dsimp only at hSw); go_simp; try with_reducible rfl)
            (try simp only [Act.put, List.getElem_toArray, List.getElem_cons_succ, List.getElem_cons_zero, List.setIfInBounds_toArray, List.set_cons_zero, List.set_cons_succ])
            refine wpAnyH_take (i := 7) (v := ?_) rfl (by kernel_rfl) (by kernel_rfl) (by kernel_rfl) (fun _ _ _ h => h) (Or.inl ⟨by kernel_rfl, ?_⟩) (by assumption) ?_
            rotate_left
            · (intro w hSw; (try dsimp only at hSw); go_simp; try with_reducible rfl)
            (try simp only [Act.put, List.getElem_toArray, List.getElem_cons_succ, List.getElem_cons_zero, List.setIfInBounds_toArray, List.set_cons_zero, List.set_cons_succ])
            refine wpAnyH_done (by kernel_rfl) ?_ _
            rotate_left
            go_simp
            refine (G2.out w6 hO6 hbO6).mono ?_
            rintro e w7 ⟨hg7, hO7, v7, rfl, hm7⟩
            obtain ⟨A7, L7, d7, rfl, hb7v, ha7⟩ := Mine.bsX hm7 (by omega)
            have t7 := strAt hb7v
            have t6' := strAt (hb6v.grownA (fun a ea => by have := ha6 a ea; rw [hs5] at this; omega) hg7 (Nat.le_refl _))
            have hbO7 := hbO6.below ((Below.refl O _).grown hg7 (by have := hO6.lt; omega) (fun j ej => by cases ej; exact Nat.le_refl _))
            have hr7 : Rdr w7 R A l c (k' : Int) er' := Blk.grown hr6 hg7 (by simp; omega)
            have hb7 := (hb5.grownA (fun a ea => by have := ha a ea; omega) hg6 (by have := hr5.lt; omega)).grownA hAR hg7 (by have := hr6.lt; omega)
            have hBw7 := hBw6.trans ((Below.refl w.heap.size _).grown hg7 hBw6.size (fun j ej => by cases ej; exact hOw))
            refine hK.out _ _ (trivial) (fun hHeld => ?_)
            clear hK K
            (try simp only [Act.put, List.getElem_toArray, List.getElem_cons_succ, List.getElem_cons_zero, List.setIfInBounds_toArray, List.set_cons_zero, List.set_cons_succ])
            refine wpAnyH_ready (rs := [2, 5]) (by kernel_rfl) (by simp) (AllReadyH.cons rfl (fun K hK => ?_) (AllReadyH.cons rfl (fun K hK => ?_) AllReadyH.nil))
            go_simp
            refine hK.out _ _ (trivial) (fun hHeld => ?_)
            clear hK K
            (try simp only [Act.put, List.getElem_toArray, List.getElem_cons_succ, List.getElem_cons_zero, List.setIfInBounds_toArray, List.set_cons_zero, List.set_cons_succ])
            refine wpAnyH_ready (rs := [5]) (by kernel_rfl) (by simp) (AllReadyH.cons rfl (fun K hK => ?_) AllReadyH.nil)
            go_simp
            refine hK.out _ _ (trivial) (fun hHeld => ?_)
            clear hK K
            (try simp only [Act.put, List.getElem_toArray, List.getElem_cons_succ, List.getElem_cons_zero, List.setIfInBounds_toArray, List.set_cons_zero, List.set_cons_succ])
            refine wpAnyH_take (i := 6) (v := ?_) rfl (by kernel_rfl) (by kernel_rfl) (by kernel_rfl) (fun _ _ _ h => h) (Or.inl ⟨by kernel_rfl, ?_⟩) (by assumption) ?_
            rotate_left
            · (intro w hSw; (try dsimp only at hSw); go_simp; try with_reducible rfl)
            (try simp only [Act.put, List.getElem_toArray, List.getElem_cons_succ, List.getElem_cons_zero, List.setIfInBounds_toArray, List.set_cons_zero, List.set_cons_succ])
            refine wpAnyH_take (i := 7) (v := ?_) rfl (by kernel_rfl) (by kernel_rfl) (by kernel_rfl) (fun _ _ _ h => h) (Or.inl ⟨by kernel_rfl, ?_⟩) (by assumption) ?_
            rotate_left
            · (intro w hSw; (try dsimp only at hSw); go_simp; try with_reducible rfl)
            (try simp only [Act.put, List.getElem_toArray, List.getElem_cons_succ, List.getElem_cons_zero, List.setIfInBounds_toArray, List.set_cons_zero, List.set_cons_succ])
            refine wpAnyH_done (by kernel_rfl) ?_ _
            rotate_left
            go_simp
            refine hK.out _ _ (trivial) (fun hHeld => ?_)
            clear hK K
            (try simp only [Act.put, List.getElem_toArray, List.getElem_cons_succ, List.getElem_cons_zero, List.setIfInBounds_toArray, List.set_cons_zero, List.set_cons_succ])
            refine wpAnyH_ready (rs := [2]) (by kernel_rfl) (by simp) (AllReadyH.cons rfl (fun K hK => ?_) AllReadyH.nil)
            go_simp
            refine hK.out _ _ (trivial) (fun hHeld => ?_)
            clear hK K
            (try simp only [Act.put, List.getElem_toArray, List.getElem_cons_succ, List.getElem_cons_zero, List.setIfInBounds_toArray, List.set_cons_zero, List.set_cons_succ])
            refine wpAnyH_take (i := 6) (v := ?_) rfl (by kernel_rfl) (by kernel_rfl) (by kernel_rfl) (fun _ _ _ h => h) (Or.inl ⟨by kernel_rfl, ?_⟩) (by assumption) ?_
            rotate_left
            · (intro w hSw; (try dsimp only at hSw); go_simp; try with_reducible rfl)
            (try simp only [Act.put, List.getElem_toArray, List.getElem_cons_succ, List.getElem_cons_zero, List.setIfInBounds_toArray, List.set_cons_zero, List.set_cons_succ])
            refine wpAnyH_take (i := 7) (v := ?_) rfl (by kernel_rfl) (by kernel_rfl) (by kernel_rfl) (fun _ _ _ h => h) (Or.inl ⟨by kernel_rfl, ?_⟩) (by assumption) ?_
            rotate_left
            · (intro w hSw; (try dsimp only at hSw); go_simp; try with_reducible rfl)
            (try simp only [Act.put, List.getElem_toArray, List.getElem_cons_succ, List.getElem_cons_zero, List.setIfInBounds_toArray, List.set_cons_zero, List.set_cons_succ])
            refine wpAnyH_done (by kernel_rfl) ?_ _
            rotate_left
          case' inr.inr.inr.inr =>
            have hs5 : (wr.alloc (.cells #[.int .i64 K, .int .i64 N] 53)).drew.heap.size = wr.heap.size + 1 := hs5
            have hb5 := hb5.below ((below_drew (wr.alloc (.cells #[.int .i64 K, .int .i64 N] 53))).mono (by have : (wr.alloc (.cells #[.int .i64 K, .int .i64 N] 53)).drew.heap.size = (wr.alloc (.cells #[.int .i64 K, .int .i64 N] 53)).heap.size := rfl; omega))
            have hbO5 := hbO5.below ((below_drew (wr.alloc (.cells #[.int .i64 K, .int .i64 N] 53))).mono (by have : (wr.alloc (.cells #[.int .i64 K, .int .i64 N] 53)).drew.heap.size = (wr.alloc (.cells #[.int .i64 K, .int .i64 N] 53)).heap.size := rfl; omega))
            have hr5 : Rdr (wr.alloc (.cells #[.int .i64 K, .int .i64 N] 53)).drew R A l c (k : Int) er := hr5
            have hO5 : Rfr (wr.alloc (.cells #[.int .i64 K, .int .i64 N] 53)).drew O A5 l c5 (k : Int) er := hO5
            have hBw5 : Below w.heap.size w (wr.alloc (.cells #[.int .i64 K, .int .i64 N] 53)).drew := hBw5.trans ((below_drew (wr.alloc (.cells #[.int .i64 K, .int .i64 N] 53))).mono hBw5.size)
            have G1 := rtake_any R l c k er N A ks (wr.alloc (.cells #[.int .i64 K, .int .i64 N] 53)).drew hN.1 hN.2 hr5 hb5 hk
            have G2 := fun (W : World) (h1 : Rfr W O A5 l c5 (k : Int) er) (h2 : Bs W O A5 l c5 ks) => refrd_t O l c5 k er N A5 ks W hN.1 hN.2 h1 h2 hk
            have hk' := nxt_le [] (readT (ks.drop k) N) k l er hk (fun v m hv => hkk m ((readT_len hv).1))
            have hFl := nxt_flen (readT (ks.drop k) N) k 1048576 er (fun f m hv => by have := (readT_len hv).2; rw [List.length_drop, hlen.out] at this; omega)
            generalize nxt [] (readT (ks.drop k) N) k er = pp at G1 G2 hk' hFl
            obtain ⟨F, k', er'⟩ := pp
            simp only at G1 G2 hk' hFl
            have G1 := hide G1
            have G2 := hide G2
            have e1 : (wr.alloc (.cells #[.int .i64 K, .int .i64 N] 53)).cell? ⟨wr.heap.size, 1, none⟩ = some (.int .i64 N) := hx5.cell 1
            go_wp2
            refine wp_region_held_drew (S := fun W => W.cell? ⟨wr.heap.size, 1, none⟩ = some (.int .i64 N)) (by kernel_rfl) (e1) (fun hHeld => ?_)
            refine wpAnyH_take (i := 0) (v := ?_) rfl (by kernel_rfl) (by kernel_rfl) (by kernel_rfl) (fun _ _ _ h => h) (Or.inl ⟨by kernel_rfl, ?_⟩) (by assumption) ?_
            rotate_left
            · (intro w hSw; (try dsimp only at hSw); go_simp; try with_reducible rfl)
            (try simp only [Act.put, List.getElem_toArray, List.getElem_cons_succ, List.getElem_cons_zero, List.setIfInBounds_toArray, List.set_cons_zero, List.set_cons_succ])
            refine wpAnyH_take (i := 1) (v := ?_) rfl (by kernel_rfl) (by kernel_rfl) (by kernel_rfl) (fun _ _ _ h => h) (Or.inl ⟨by kernel_rfl, ?_⟩) (by assumption) ?_
            rotate_left
            · (intro w hSw; (try dsimp only at hSw); go_simp; try with_reducible rfl)
            (try simp only [Act.put, List.getElem_toArray, List.getElem_cons_succ, List.getElem_cons_zero, List.setIfInBounds_toArray, List.set_cons_zero, List.set_cons_succ])
            refine wpAnyH_take (i := 2) (v := ?_) rfl (by kernel_rfl) (by kernel_rfl) (by kernel_rfl) (fun _ _ _ h => h) (Or.inl ⟨by kernel_rfl, ?_⟩) (by assumption) ?_
            rotate_left
            · (intro w hSw; (try dsimp only at hSw); go_simp; try with_reducible rfl)
            (try simp only [Act.put, List.getElem_toArray, List.getElem_cons_succ, List.getElem_cons_zero, List.setIfInBounds_toArray, List.set_cons_zero, List.set_cons_succ])
            refine wpAnyH_take (i := 5) (v := ?_) rfl (by kernel_rfl) (by kernel_rfl) (by kernel_rfl) (fun _ _ _ h => h) (Or.inl ⟨by kernel_rfl, ?_⟩) (by assumption) ?_
            rotate_left
            · (intro w hSw; (try dsimp only at hSw); go_simp; try with_reducible rfl)
            (try simp only [Act.put, List.getElem_toArray, List.getElem_cons_succ, List.getElem_cons_zero, List.setIfInBounds_toArray, List.set_cons_zero, List.set_cons_succ])
            refine wpAnyH_take (i := 6) (v := ?_) rfl (by kernel_rfl) (by kernel_rfl) (by kernel_rfl) (fun _ _ _ h => h) (Or.inl ⟨by kernel_rfl, ?_⟩) (by assumption) ?_
            rotate_left
            · (intro w hSw; (try dsimp only at hSw); go_simp; try with_reducible rfl)
            (try simp only [Act.put, List.getElem_toArray, List.getElem_cons_succ, List.getElem_cons_zero, List.setIfInBounds_toArray, List.set_cons_zero, List.set_cons_succ])
            refine wpAnyH_take (i := 7) (v := ?_) rfl (by kernel_rfl) (by kernel_rfl) (by kernel_rfl) (fun _ _ _ h => h) (Or.inl ⟨by kernel_rfl, ?_⟩) (by assumption) ?_
            rotate_left
            · (intro w hSw; (try dsimp only at hSw); go_simp; try with_reducible rfl)
            (try simp only [Act.put, List.getElem_toArray, List.getElem_cons_succ, List.getElem_cons_zero, List.setIfInBounds_toArray, List.set_cons_zero, List.set_cons_succ])
            refine wpAnyH_ready (rs := [3]) (by kernel_rfl) (by simp) (AllReadyH.cons rfl (fun K hK => ?_) AllReadyH.nil)
            go_simp
            refine G1.out.mono ?_
            rintro e w6 ⟨hg6, hr6, v6, rfl, hm6⟩
            obtain ⟨A6, L6, d6, rfl, hb6v, ha6⟩ := Mine.bsX hm6 (by omega)
            have t6 := strAt hb6v
            have hO6 : Rfr w6 O A5 l c5 (k : Int) er := Blk.grown hO5 hg6 (by simp; omega)
            have hbO6 := hbO5.grownA hAO hg6 (by have := hO5.lt; omega)
            have hBw6 := hBw5.trans ((Below.refl w.heap.size _).grown hg6 hBw5.size (fun j ej => by cases ej; exact hRw))
            have e6 : w6.cell? ⟨wr.heap.size, 1, none⟩ = some (.int .i64 N) := (World.cell?_of_block (hg6.block wr.heap.size (by rw [hs5]; omega) (by simp; omega))).trans e1
            refine hK.out _ _ (e6) (fun hHeld => ?_)
            clear hK K
            (try simp only [Act.put, List.getElem_toArray, List.getElem_cons_succ, List.getElem_cons_zero, List.setIfInBounds_toArray, List.set_cons_zero, List.set_cons_succ])
            refine wpAnyH_ready (rs := [4, 8]) (by kernel_rfl) (by simp) (AllReadyH.cons rfl (fun K hK => ?_) (AllReadyH.cons rfl (fun K hK => ?_) AllReadyH.nil))
            go_simp
            refine hK.out _ _ (e6) (fun hHeld => ?_)
            clear hK K
            (try simp only [Act.put, List.getElem_toArray, List.getElem_cons_succ, List.getElem_cons_zero, List.setIfInBounds_toArray, List.set_cons_zero, List.set_cons_succ])
            refine wpAnyH_ready (rs := [8]) (by kernel_rfl) (by simp) (AllReadyH.cons rfl (fun K hK => ?_) AllReadyH.nil)
            go_simp
            refine (G2.out w6 hO6 hbO6).mono ?_
            rintro e w7 ⟨hg7, hO7, v7, rfl, hm7⟩
            obtain ⟨A7, L7, d7, rfl, hb7v, ha7⟩ := Mine.bsX hm7 (by omega)
            have t7 := strAt hb7v
            have t6' := strAt (hb6v.grownA (fun a ea => by have := ha6 a ea; rw [hs5] at this; omega) hg7 (Nat.le_refl _))
            have hbO7 := hbO6.below ((Below.refl O _).grown hg7 (by have := hO6.lt; omega) (fun j ej => by cases ej; exact Nat.le_refl _))
            have hr7 : Rdr w7 R A l c (k' : Int) er' := Blk.grown hr6 hg7 (by simp; omega)
            have hb7 := (hb5.grownA (fun a ea => by have := ha a ea; omega) hg6 (by have := hr5.lt; omega)).grownA hAR hg7 (by have := hr6.lt; omega)
            have hBw7 := hBw6.trans ((Below.refl w.heap.size _).grown hg7 hBw6.size (fun j ej => by cases ej; exact hOw))
            have e7 : w7.cell? ⟨wr.heap.size, 1, none⟩ = some (.int .i64 N) := (World.cell?_of_block (hg7.block wr.heap.size (by have := hg6.size; rw [hs5] at this; omega) (by simp; omega))).trans e6
            refine hK.out _ _ (e7) (fun hHeld => ?_)
            clear hK K
            (try simp only [Act.put, List.getElem_toArray, List.getElem_cons_succ, List.getElem_cons_zero, List.setIfInBounds_toArray, List.set_cons_zero, List.set_cons_succ])
            refine wpAnyH_ready (rs := [9]) (by kernel_rfl) (by simp) (AllReadyH.cons rfl (fun K hK => ?_) AllReadyH.nil)
            go_simp
            refine hK.out _ _ (e7) (fun hHeld => ?_)
            clear hK K
            (try simp only [Act.put, List.getElem_toArray, List.getElem_cons_succ, List.getElem_cons_zero, List.setIfInBounds_toArray, List.set_cons_zero, List.set_cons_succ])
            refine wpAnyH_take (i := 10) (v := ?_) rfl (by kernel_rfl) (by kernel_rfl) (by kernel_rfl) (fun _ _ _ h => h) (Or.inl ⟨by kernel_rfl, ?_⟩) (by assumption) ?_
            rotate_left
            · (intro w hSw; (try dsimp only at hSw); go_simp; try with_reducible rfl)
            (try simp only [Act.put, List.getElem_toArray, List.getElem_cons_succ, List.getElem_cons_zero, List.setIfInBounds_toArray, List.set_cons_zero, List.set_cons_succ])
            refine wpAnyH_take (i := 11) (v := ?_) rfl (by kernel_rfl) (by kernel_rfl) (by kernel_rfl) (fun _ _ _ h => h) (Or.inl ⟨by kernel_rfl, ?_⟩) (by assumption) ?_
            rotate_left
            · (intro w hSw; (try dsimp only at hSw); go_simp; try with_reducible rfl)
            (try simp only [Act.put, List.getElem_toArray, List.getElem_cons_succ, List.getElem_cons_zero, List.setIfInBounds_toArray, List.set_cons_zero, List.set_cons_succ])
            refine wpAnyH_done (by kernel_rfl) ?_ _
            rotate_left
            go_simp
            refine (G2.out w6 hO6 hbO6).mono ?_
            rintro e w7 ⟨hg7, hO7, v7, rfl, hm7⟩
            obtain ⟨A7, L7, d7, rfl, hb7v, ha7⟩ := Mine.bsX hm7 (by omega)
            have t7 := strAt hb7v
            have t6' := strAt (hb6v.grownA (fun a ea => by have := ha6 a ea; rw [hs5] at this; omega) hg7 (Nat.le_refl _))
            have hbO7 := hbO6.below ((Below.refl O _).grown hg7 (by have := hO6.lt; omega) (fun j ej => by cases ej; exact Nat.le_refl _))
            have hr7 : Rdr w7 R A l c (k' : Int) er' := Blk.grown hr6 hg7 (by simp; omega)
            have hb7 := (hb5.grownA (fun a ea => by have := ha a ea; omega) hg6 (by have := hr5.lt; omega)).grownA hAR hg7 (by have := hr6.lt; omega)
            have hBw7 := hBw6.trans ((Below.refl w.heap.size _).grown hg7 hBw6.size (fun j ej => by cases ej; exact hOw))
            have e7 : w7.cell? ⟨wr.heap.size, 1, none⟩ = some (.int .i64 N) := (World.cell?_of_block (hg7.block wr.heap.size (by have := hg6.size; rw [hs5] at this; omega) (by simp; omega))).trans e6
            refine hK.out _ _ (e7) (fun hHeld => ?_)
            clear hK K
            (try simp only [Act.put, List.getElem_toArray, List.getElem_cons_succ, List.getElem_cons_zero, List.setIfInBounds_toArray, List.set_cons_zero, List.set_cons_succ])
            refine wpAnyH_ready (rs := [4, 9]) (by kernel_rfl) (by simp) (AllReadyH.cons rfl (fun K hK => ?_) (AllReadyH.cons rfl (fun K hK => ?_) AllReadyH.nil))
            go_simp
            refine hK.out _ _ (e7) (fun hHeld => ?_)
            clear hK K
            (try simp only [Act.put, List.getElem_toArray, List.getElem_cons_succ, List.getElem_cons_zero, List.setIfInBounds_toArray, List.set_cons_zero, List.set_cons_succ])
            refine wpAnyH_ready (rs := [9]) (by kernel_rfl) (by simp) (AllReadyH.cons rfl (fun K hK => ?_) AllReadyH.nil)
            go_simp
            refine hK.out _ _ (e7) (fun hHeld => ?_)
            clear hK K
            (try simp only [Act.put, List.getElem_toArray, List.getElem_cons_succ, List.getElem_cons_zero, List.setIfInBounds_toArray, List.set_cons_zero, List.set_cons_succ])
            refine wpAnyH_take (i := 10) (v := ?_) rfl (by kernel_rfl) (by kernel_rfl) (by kernel_rfl) (fun _ _ _ h => h) (Or.inl ⟨by kernel_rfl, ?_⟩) (by assumption) ?_
            rotate_left
            · (intro w hSw; (try dsimp only at hSw); go_simp; try with_reducible rfl)
            (try simp only [Act.put, List.getElem_toArray, List.getElem_cons_succ, List.getElem_cons_zero, List.setIfInBounds_toArray, List.set_cons_zero, List.set_cons_succ])
            refine wpAnyH_take (i := 11) (v := ?_) rfl (by kernel_rfl) (by kernel_rfl) (by kernel_rfl) (fun _ _ _ h => h) (Or.inl ⟨by kernel_rfl, ?_⟩) (by assumption) ?_
            rotate_left
            · (intro w hSw; (try dsimp only at hSw); go_simp; try with_reducible rfl)
            (try simp only [Act.put, List.getElem_toArray, List.getElem_cons_succ, List.getElem_cons_zero, List.setIfInBounds_toArray, List.set_cons_zero, List.set_cons_succ])
            refine wpAnyH_done (by kernel_rfl) ?_ _
            rotate_left
            go_simp
            refine hK.out _ _ (e7) (fun hHeld => ?_)
            clear hK K
            (try simp only [Act.put, List.getElem_toArray, List.getElem_cons_succ, List.getElem_cons_zero, List.setIfInBounds_toArray, List.set_cons_zero, List.set_cons_succ])
            refine wpAnyH_ready (rs := [4]) (by kernel_rfl) (by simp) (AllReadyH.cons rfl (fun K hK => ?_) AllReadyH.nil)
            go_simp
            refine hK.out _ _ (e7) (fun hHeld => ?_)
            clear hK K
            (try simp only [Act.put, List.getElem_toArray, List.getElem_cons_succ, List.getElem_cons_zero, List.setIfInBounds_toArray, List.set_cons_zero, List.set_cons_succ])
            refine wpAnyH_take (i := 10) (v := ?_) rfl (by kernel_rfl) (by kernel_rfl) (by kernel_rfl) (fun _ _ _ h => h) (Or.inl ⟨by kernel_rfl, ?_⟩) (by assumption) ?_
            rotate_left
            · (intro w hSw; (try dsimp only at hSw); go_simp; try with_reducible rfl)
            (try simp only [Act.put, List.getElem_toArray, List.getElem_cons_succ, List.getElem_cons_zero, List.setIfInBounds_toArray, List.set_cons_zero, List.set_cons_succ])
            refine wpAnyH_take (i := 11) (v := ?_) rfl (by kernel_rfl) (by kernel_rfl) (by kernel_rfl) (fun _ _ _ h => h) (Or.inl ⟨by kernel_rfl, ?_⟩) (by assumption) ?_
            rotate_left
            · (intro w hSw; (try dsimp only at hSw); go_simp; try with_reducible rfl)
            (try simp only [Act.put, List.getElem_toArray, List.getElem_cons_succ, List.getElem_cons_zero, List.setIfInBounds_toArray, List.set_cons_zero, List.set_cons_succ])
            refine wpAnyH_done (by kernel_rfl) ?_ _
            rotate_left
          all_goals
            have HR := hide (show ∀ W, Below w7.heap.size w7 W → Rdr W R A l c (k' : Int) er' from fun W hW => hr7.below hW hr7.lt)
            have HO := hide (show ∀ W, Below w7.heap.size w7 W → Rfr W O A5 l c5 (k' : Int) er' from fun W hW => hO7.below hW hO7.lt)
            have hlR := hr7.lt
            have hlO := hO7.lt
            have HS := hide (show ∀ W, Below w7.heap.size w7 W → W.cell? ⟨O, 1, none⟩ = some (.int .i64 (k' : Int)) ∧ W.cell? ⟨O, 2, none⟩ = some (.int .i64 er') from fun W hW => ⟨(hO7.below hW hlO).cell 1, (hO7.below hW hlO).cell 2⟩)
            have hkd : decide (l < k') = false := decide_eq_false (by omega)
            have hkd' : ¬ (l : Int) < (k' : Int) := by omega
            try go_wp2
            refine wp_region_held_drew (S := fun W => W.cell? ⟨O, 1, none⟩ = some (.int .i64 (k' : Int)) ∧ W.cell? ⟨O, 2, none⟩ = some (.int .i64 er')) (by kernel_rfl) (HS.out _ (below_drew w7)) (fun hHeld => ?_)
            refine wpAnyH_take (i := 0) (v := ?_) rfl (by kernel_rfl) (by kernel_rfl) (by kernel_rfl) (fun _ _ _ h => h) (Or.inl ⟨by kernel_rfl, ?_⟩) (by assumption) ?_
            rotate_left
            · (intro w hSw; (try dsimp only at hSw); go_simp; try with_reducible rfl)
            (try simp only [Act.put, List.getElem_toArray, List.getElem_cons_succ, List.getElem_cons_zero, List.setIfInBounds_toArray, List.set_cons_zero, List.set_cons_succ])
            refine wpAnyH_take (i := 1) (v := ?_) rfl (by kernel_rfl) (by kernel_rfl) (by kernel_rfl) (fun _ _ _ h => h) (Or.inl ⟨by kernel_rfl, ?_⟩) (by assumption) ?_
            rotate_left
            · (intro w hSw; (try dsimp only at hSw); go_simp; try with_reducible rfl)
            (try simp only [Act.put, List.getElem_toArray, List.getElem_cons_succ, List.getElem_cons_zero, List.setIfInBounds_toArray, List.set_cons_zero, List.set_cons_succ])
            refine wpAnyH_take (i := 2) (v := ?_) rfl (by kernel_rfl) (by kernel_rfl) (by kernel_rfl) (fun _ _ _ h => h) (Or.inl ⟨by kernel_rfl, ?_⟩) (by assumption) ?_
            rotate_left
            · (intro w hSw; (try dsimp only at hSw); go_simp; try with_reducible rfl)
            (try simp only [Act.put, List.getElem_toArray, List.getElem_cons_succ, List.getElem_cons_zero, List.setIfInBounds_toArray, List.set_cons_zero, List.set_cons_succ])
            refine wpAnyH_take (i := 3) (v := ?_) rfl (by kernel_rfl) (by kernel_rfl) (by kernel_rfl) (fun _ _ _ h => h) (Or.inl ⟨by kernel_rfl, ?_⟩) (by assumption) ?_
            rotate_left
            · (intro w hSw; (try dsimp only at hSw); go_simp; try with_reducible rfl)
            (try simp only [Act.put, List.getElem_toArray, List.getElem_cons_succ, List.getElem_cons_zero, List.setIfInBounds_toArray, List.set_cons_zero, List.set_cons_succ])
            refine wpAnyH_take (i := 5) (v := ?_) rfl (by kernel_rfl) (by kernel_rfl) (by kernel_rfl) (fun _ _ _ h => h) (Or.inl ⟨by kernel_rfl, ?_⟩) (by assumption) ?_
            rotate_left
            · (intro w hSw; (try dsimp only at hSw); go_simp; try with_reducible rfl)
            (try simp only [Act.put, List.getElem_toArray, List.getElem_cons_succ, List.getElem_cons_zero, List.setIfInBounds_toArray, List.set_cons_zero, List.set_cons_succ])
            refine wpAnyH_take (i := 6) (v := ?_) rfl (by kernel_rfl) (by kernel_rfl) (by kernel_rfl) (fun _ _ _ h => h) (Or.inl ⟨by kernel_rfl, ?_⟩) (by assumption) ?_
            rotate_left
            · (intro w hSw; (try dsimp only at hSw); go_simp; try with_reducible rfl)
            (try simp only [Act.put, List.getElem_toArray, List.getElem_cons_succ, List.getElem_cons_zero, List.setIfInBounds_toArray, List.set_cons_zero, List.set_cons_succ])
            refine wpAnyH_take (i := 7) (v := ?_) rfl (by kernel_rfl) (by kernel_rfl) (by kernel_rfl) (fun _ _ _ h => h) (Or.inl ⟨by kernel_rfl, ?_⟩) (by assumption) ?_
            rotate_left
            · (intro w hSw; (try dsimp only at hSw); go_simp; try with_reducible rfl)
            (try simp only [Act.put, List.getElem_toArray, List.getElem_cons_succ, List.getElem_cons_zero, List.setIfInBounds_toArray, List.set_cons_zero, List.set_cons_succ])
            refine wpAnyH_take (i := 8) (v := ?_) rfl (by kernel_rfl) (by kernel_rfl) (by kernel_rfl) (fun _ _ _ h => h) (Or.inl ⟨by kernel_rfl, ?_⟩) (by assumption) ?_
            rotate_left
            · (intro w hSw; (try dsimp only at hSw); go_simp; try with_reducible rfl)
            (try simp only [Act.put, List.getElem_toArray, List.getElem_cons_succ, List.getElem_cons_zero, List.setIfInBounds_toArray, List.set_cons_zero, List.set_cons_succ])
            refine wpAnyH_ready (rs := [4]) (by kernel_rfl) (by simp) (AllReadyH.cons rfl (fun K hK => ?_) AllReadyH.nil)
            go_simp
            refine (at_any R A l c _ _ _ (HR.out _ (below_drew w7))).mono ?_
            rintro e w8 ⟨rfl, rfl⟩
            refine hK.out _ _ (HS.out _ (below_drew w7)) (fun hHeld => ?_)
            clear hK K
            (try simp only [Act.put, List.getElem_toArray, List.getElem_cons_succ, List.getElem_cons_zero, List.setIfInBounds_toArray, List.set_cons_zero, List.set_cons_succ])
            refine wpAnyH_take (i := 9) (v := ?_) rfl (by kernel_rfl) (by kernel_rfl) (by kernel_rfl) (fun _ _ _ h => h) (Or.inl ⟨by kernel_rfl, ?_⟩) (by assumption) ?_
            rotate_left
            · (intro w hSw; (try dsimp only at hSw); go_simp; try with_reducible rfl)
            (try simp only [Act.put, List.getElem_toArray, List.getElem_cons_succ, List.getElem_cons_zero, List.setIfInBounds_toArray, List.set_cons_zero, List.set_cons_succ])
            refine wpAnyH_take (i := 10) (v := ?_) rfl (by kernel_rfl) (by kernel_rfl) (by kernel_rfl) (fun _ _ _ h => h) (Or.inl ⟨by kernel_rfl, ?_⟩) (by assumption) ?_
            rotate_left
            · (intro w hSw; (try dsimp only at hSw); go_simp; try with_reducible rfl)
            (try simp only [Act.put, List.getElem_toArray, List.getElem_cons_succ, List.getElem_cons_zero, List.setIfInBounds_toArray, List.set_cons_zero, List.set_cons_succ])
            refine wpAnyH_take (i := 11) (v := ?_) rfl (by kernel_rfl) (by kernel_rfl) (by kernel_rfl) (fun _ _ _ h => h) (Or.inl ⟨by kernel_rfl, ?_⟩) (by assumption) ?_
            rotate_left
            · (intro w hSw; (try dsimp only at hSw); go_simp; try with_reducible rfl)
            (try simp only [Act.put, List.getElem_toArray, List.getElem_cons_succ, List.getElem_cons_zero, List.setIfInBounds_toArray, List.set_cons_zero, List.set_cons_succ])
            refine wpAnyH_take (i := 12) (v := ?_) rfl (by kernel_rfl) (by kernel_rfl) (by kernel_rfl) (fun _ _ _ h => h) (Or.inl ⟨by kernel_rfl, ?_⟩) (by assumption) ?_
            rotate_left
            · (intro w hSw; (try dsimp only at hSw); go_simp; try with_reducible rfl)
            (try simp only [Act.put, List.getElem_toArray, List.getElem_cons_succ, List.getElem_cons_zero, List.setIfInBounds_toArray, List.set_cons_zero, List.set_cons_succ])
            refine wpAnyH_take (i := 14) (v := ?_) rfl (by kernel_rfl) (by kernel_rfl) (by kernel_rfl) (fun _ _ _ h => h) (Or.inl ⟨by kernel_rfl, ?_⟩) (by assumption) ?_
            rotate_left
            · (intro w hSw; (try dsimp only at hSw); go_simp; try with_reducible rfl)
            (try simp only [Act.put, List.getElem_toArray, List.getElem_cons_succ, List.getElem_cons_zero, List.setIfInBounds_toArray, List.set_cons_zero, List.set_cons_succ])
            refine wpAnyH_take (i := 15) (v := ?_) rfl (by kernel_rfl) (by kernel_rfl) (by kernel_rfl) (fun _ _ _ h => h) (Or.inl ⟨by kernel_rfl, ?_⟩) (by assumption) ?_
            rotate_left
            · (intro w hSw; (try dsimp only at hSw); go_simp; try with_reducible rfl)
            (try simp only [Act.put, List.getElem_toArray, List.getElem_cons_succ, List.getElem_cons_zero, List.setIfInBounds_toArray, List.set_cons_zero, List.set_cons_succ])
            refine wpAnyH_take (i := 16) (v := ?_) rfl (by kernel_rfl) (by kernel_rfl) (by kernel_rfl) (fun _ _ _ h => h) (Or.inl ⟨by kernel_rfl, ?_⟩) (by assumption) ?_
            rotate_left
            · (intro w hSw; (try dsimp only at hSw); go_simp; try with_reducible rfl)
            (try simp only [Act.put, List.getElem_toArray, List.getElem_cons_succ, List.getElem_cons_zero, List.setIfInBounds_toArray, List.set_cons_zero, List.set_cons_succ])
            refine wpAnyH_take (i := 17) (v := ?_) rfl (by kernel_rfl) (by kernel_rfl) (by kernel_rfl) (fun _ _ _ h => h) (Or.inl ⟨by kernel_rfl, ?_⟩) (by assumption) ?_
            rotate_left
            · (intro w hSw; (try dsimp only at hSw); go_simp; try with_reducible rfl)
            (try simp only [Act.put, List.getElem_toArray, List.getElem_cons_succ, List.getElem_cons_zero, List.setIfInBounds_toArray, List.set_cons_zero, List.set_cons_succ])
            refine wpAnyH_ready (rs := [13]) (by kernel_rfl) (by simp) (AllReadyH.cons rfl (fun K hK => ?_) AllReadyH.nil)
            go_simp
            refine (err_any R A l c _ _ _ (HR.out _ (below_drew w7))).mono ?_
            rintro e w8 ⟨rfl, rfl⟩
            refine hK.out _ _ (HS.out _ (below_drew w7)) (fun hHeld => ?_)
            clear hK K
            (try simp only [Act.put, List.getElem_toArray, List.getElem_cons_succ, List.getElem_cons_zero, List.setIfInBounds_toArray, List.set_cons_zero, List.set_cons_succ])
            refine wpAnyH_take (i := 18) (v := ?_) rfl (by kernel_rfl) (by kernel_rfl) (by kernel_rfl) (fun _ _ _ h => h) (Or.inl ⟨by kernel_rfl, ?_⟩) (by assumption) ?_
            rotate_left
            · (intro w hSw; (try dsimp only at hSw); go_simp; try with_reducible rfl)
            (try simp only [Act.put, List.getElem_toArray, List.getElem_cons_succ, List.getElem_cons_zero, List.setIfInBounds_toArray, List.set_cons_zero, List.set_cons_succ])
            refine wpAnyH_take (i := 19) (v := ?_) rfl (by kernel_rfl) (by kernel_rfl) (by kernel_rfl) (fun _ _ _ h => h) (Or.inl ⟨by kernel_rfl, ?_⟩) (by assumption) ?_
            rotate_left
            · (intro w hSw; (try dsimp only at hSw); go_simp; try with_reducible rfl)
            (try simp only [Act.put, List.getElem_toArray, List.getElem_cons_succ, List.getElem_cons_zero, List.setIfInBounds_toArray, List.set_cons_zero, List.set_cons_succ])
            refine wpAnyH_take (i := 20) (v := ?_) rfl (by kernel_rfl) (by kernel_rfl) (by kernel_rfl) (fun _ _ _ h => h) (Or.inl ⟨by kernel_rfl, ?_⟩) (by assumption) ?_
            rotate_left
            · (intro w hSw; (try dsimp only at hSw); go_simp; try with_reducible rfl)
            (try simp only [Act.put, List.getElem_toArray, List.getElem_cons_succ, List.getElem_cons_zero, List.setIfInBounds_toArray, List.set_cons_zero, List.set_cons_succ])
            refine wpAnyH_take (i := 21) (v := ?_) rfl (by kernel_rfl) (by kernel_rfl) (by kernel_rfl) (fun _ _ _ h => h) (Or.inl ⟨by kernel_rfl, ?_⟩) (by assumption) ?_
            rotate_left
            · (intro w hSw; (try dsimp only at hSw); go_simp; try with_reducible rfl)
            (try simp only [Act.put, List.getElem_toArray, List.getElem_cons_succ, List.getElem_cons_zero, List.setIfInBounds_toArray, List.set_cons_zero, List.set_cons_succ])
            refine wpAnyH_take (i := 23) (v := ?_) rfl (by kernel_rfl) (by kernel_rfl) (by kernel_rfl) (fun _ _ _ h => h) (Or.inl ⟨by kernel_rfl, ?_⟩) (by assumption) ?_
            rotate_left
            · (intro w hSw; (try dsimp only at hSw); go_simp; try with_reducible rfl)
            (try simp only [Act.put, List.getElem_toArray, List.getElem_cons_succ, List.getElem_cons_zero, List.setIfInBounds_toArray, List.set_cons_zero, List.set_cons_succ])
            refine wpAnyH_ready (rs := [22]) (by kernel_rfl) (by simp) (AllReadyH.cons rfl (fun K hK => ?_) AllReadyH.nil)
            go_simp
            refine (done_any R A l c _ _ _ (HR.out _ (below_drew w7))).mono ?_
            rintro e w8 ⟨rfl, hw8⟩
            have B8 : Below w7.heap.size w7 w8 := by obtain ⟨md, rfl⟩ := hw8; exact Below.drewN' (below_drew w7) md
            clear hw8
            refine hK.out _ _ (HS.out _ B8) (fun hHeld => ?_)
            clear hK K
            (try simp only [Act.put, List.getElem_toArray, List.getElem_cons_succ, List.getElem_cons_zero, List.setIfInBounds_toArray, List.set_cons_zero, List.set_cons_succ])
            refine wpAnyH_ready (rs := [24]) (by kernel_rfl) (by simp) (AllReadyH.cons rfl (fun K hK => ?_) AllReadyH.nil)
            go_simp
            refine (refdone_any O A5 l c5 _ _ _ (HO.out _ B8)).mono ?_
            rintro e w9 ⟨rfl, hw9⟩
            have B9 : Below w7.heap.size w7 w9 := by obtain ⟨me, rfl⟩ := hw9; exact Below.drewN' B8 me
            clear hw9
            refine hK.out _ _ (HS.out _ B9) (fun hHeld => ?_)
            clear hK K
            (try simp only [Act.put, List.getElem_toArray, List.getElem_cons_succ, List.getElem_cons_zero, List.setIfInBounds_toArray, List.set_cons_zero, List.set_cons_succ])
            refine wpAnyH_take (i := 25) (v := ?_) rfl (by kernel_rfl) (by kernel_rfl) (by kernel_rfl) (fun _ _ _ h => h) (Or.inl ⟨by kernel_rfl, ?_⟩) (by assumption) ?_
            rotate_left
            · (intro w hSw; (try dsimp only at hSw); go_simp; try with_reducible rfl)
            (try simp only [Act.put, List.getElem_toArray, List.getElem_cons_succ, List.getElem_cons_zero, List.setIfInBounds_toArray, List.set_cons_zero, List.set_cons_succ])
            refine wpAnyH_take (i := 26) (v := ?_) rfl (by kernel_rfl) (by kernel_rfl) (by kernel_rfl) (fun _ _ _ h => h) (Or.inl ⟨by kernel_rfl, ?_⟩) (by assumption) ?_
            rotate_left
            · (intro w hSw; (try dsimp only at hSw); go_simp; try with_reducible rfl)
            (try simp only [Act.put, List.getElem_toArray, List.getElem_cons_succ, List.getElem_cons_zero, List.setIfInBounds_toArray, List.set_cons_zero, List.set_cons_succ])
            refine wpAnyH_take (i := 27) (v := ?_) rfl (by kernel_rfl) (by kernel_rfl) (by kernel_rfl) (fun _ _ _ h => h) (Or.inl ⟨by kernel_rfl, ?_⟩) (by assumption) ?_
            rotate_left
            · (intro w hSw; (try dsimp only at hSw); go_simp; try with_reducible rfl)
            (try simp only [Act.put, List.getElem_toArray, List.getElem_cons_succ, List.getElem_cons_zero, List.setIfInBounds_toArray, List.set_cons_zero, List.set_cons_succ])
            refine wpAnyH_take (i := 28) (v := ?_) rfl (by kernel_rfl) (by kernel_rfl) (by kernel_rfl) (fun _ _ _ h => h) (Or.inl ⟨by kernel_rfl, ?_⟩) (by assumption) ?_
            rotate_left
            · (intro w hSw; (try dsimp only at hSw); go_simp; try with_reducible rfl)
            (try simp only [Act.put, List.getElem_toArray, List.getElem_cons_succ, List.getElem_cons_zero, List.setIfInBounds_toArray, List.set_cons_zero, List.set_cons_succ])
            refine wpAnyH_take (i := 30) (v := ?_) rfl (by kernel_rfl) (by kernel_rfl) (by kernel_rfl) (fun _ _ _ h => h) (Or.inl ⟨by kernel_rfl, ?_⟩) (by assumption) ?_
            rotate_left
            · (intro w hSw; (try dsimp only at hSw); go_simp; try with_reducible rfl)
            (try simp only [Act.put, List.getElem_toArray, List.getElem_cons_succ, List.getElem_cons_zero, List.setIfInBounds_toArray, List.set_cons_zero, List.set_cons_succ])
            refine wpAnyH_take (i := 31) (v := ?_) rfl (by kernel_rfl) (by kernel_rfl) (by kernel_rfl) (fun _ _ _ h => h) (Or.inl ⟨by kernel_rfl, ?_⟩) (by assumption) ?_
            rotate_left
            · (intro w hSw; (try dsimp only at hSw); go_simp; try with_reducible rfl)
            (try simp only [Act.put, List.getElem_toArray, List.getElem_cons_succ, List.getElem_cons_zero, List.setIfInBounds_toArray, List.set_cons_zero, List.set_cons_succ])
            refine wpAnyH_ready (rs := [29]) (by kernel_rfl) (by simp) (AllReadyH.cons rfl (fun K hK => ?_) AllReadyH.nil)
            go_simp
            refine (at_any R A l c _ _ _ (HR.out _ B9)).mono ?_
            rintro e w10 ⟨rfl, rfl⟩
            refine hK.out _ _ (HS.out _ B9) (fun hHeld => ?_)
            clear hK K
            (try simp only [Act.put, List.getElem_toArray, List.getElem_cons_succ, List.getElem_cons_zero, List.setIfInBounds_toArray, List.set_cons_zero, List.set_cons_succ])
            refine wpAnyH_take (i := 32) (v := ?_) rfl (by kernel_rfl) (by kernel_rfl) (by kernel_rfl) (fun _ _ _ h => h) (Or.inl ⟨by kernel_rfl, ?_⟩) (by assumption) ?_
            rotate_left
            · (intro w hSw; (try dsimp only at hSw); go_simp; try with_reducible rfl)
            (try simp only [Act.put, List.getElem_toArray, List.getElem_cons_succ, List.getElem_cons_zero, List.setIfInBounds_toArray, List.set_cons_zero, List.set_cons_succ])
            refine wpAnyH_take (i := 33) (v := ?_) rfl (by kernel_rfl) (by kernel_rfl) (by kernel_rfl) (fun _ _ _ h => h) (Or.inl ⟨by kernel_rfl, ?_⟩) (by assumption) ?_
            rotate_left
            · (intro w hSw; (try dsimp only at hSw); go_simp; try with_reducible rfl)
            (try simp only [Act.put, List.getElem_toArray, List.getElem_cons_succ, List.getElem_cons_zero, List.setIfInBounds_toArray, List.set_cons_zero, List.set_cons_succ])
            refine wpAnyH_done (by kernel_rfl) ?_ _
            go_wp2
            go_roundw
            case rel => exact ⟨j + 1, k', er', by omega, by simp, hk', HR.out _ B9, hb7.below (B9 |>.mono (by omega)), HO.out _ B9, hbO7.below (B9 |>.mono (by omega)), hBw7.trans (B9 |>.mono hBw7.size)⟩
            case measure => simp [intOf]; omega
        · obtain rfl : j = q := by omega
          go_wp2
          go_ret
          exact ⟨rfl, hBw⟩

end Go.Proofs.Ytdlbhppoknbnlaa
