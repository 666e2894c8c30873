/- DrawHolesOn. -/
import Derived.Test.YtidiecffahaojaaCurK
namespace Go.Proofs.Ytidiecffahaojaa
open Go.RowKit

theorem reads_take {w : World} {a : Option Addr} {zs : List Int} (h : Reads w a (ints zs)) (j : Nat) : Reads w a (ints (zs.take j)) := by
  rcases h with h0 | ⟨b, off, e, hb, hc⟩
  · left
    have : zs = [] := by simpa [ints] using h0
    simp [this, ints]
  · right
    refine ⟨b, off, e, hb, fun k u hu => hc k u ?_⟩
    simp only [ints, List.map_take] at hu ⊢
    rw [List.getElem?_take] at hu
    split at hu
    · exact hu
    · cases hu
set_option maxRecDepth 100000 in
set_option maxHeartbeats 1000000 in
theorem drawHolesOn_any (a : Option Addr) (cap : Nat) (cs : List Int) (w : World) (hm : cs.length ≤ maxLen) (hr : Reads w a (bytesV cs)) (hz : ∀ z ∈ cs, 0 ≤ z ∧ z ≤ 255) :
    Calls Try.prog 26 #[.slice a cs.length cap] w fun e w' => ∃ (x y : Int), e = .returned (.tuple #[.int .i64 x, .int .i64 y]) ∧ (499 ≤ x ∧ x ≤ 10000) ∧ (0 ≤ y ∧ y ≤ 2100) ∧ Below w.heap.size w w' := by
  have HC := Lib.hid (cur_newT cap hm hr hz)
  have HP := Lib.hid (fun w g n m h hn h1 h2 => pick_any g n m w h hn h1 h2)
  have HQ := Lib.hid (fun g n c a zs w h hn h1 h2 hr hne => among_any g n c a zs w h hn h1 h2 hr hne)
  have HA := Lib.hid (fun w g n h hn => ask5_any g n w h hn)
  have HB0 := Lib.hid (Go.Joins.below_alloc1 w (.cells #[.slice a cs.length cap, .int .i64 0, .int .u64 0] 64))
  have hlt := HC.out.lt
  have hs0 : (w.alloc (.cells #[.slice a cs.length cap, .int .i64 0, .int .u64 0] 64)).heap.size = w.heap.size + 1 := by simp
  clear hr hz
  go_enter Try.func26, Try.ntmps26
  go_wp2_with fail
  generalize w.alloc (.cells #[.slice a cs.length cap, .int .i64 0, .int .u64 0] 64) = w0 at *
  have HC1 := Lib.hid (HC.out.alloc (.cells #[.int .i64 500, .int .i64 2000, .int .i64 2500, .int .i64 9999, .int .i64 499, .int .i64 10000] 3))
  have HG1 := Lib.hid (World.grownBy_alloc w0 (.cells #[.int .i64 500, .int .i64 2000, .int .i64 2500, .int .i64 9999, .int .i64 499, .int .i64 10000] 3) (some w.heap.size))
  have HX1 : Hid (RowIs (w0.alloc (.cells #[.int .i64 500, .int .i64 2000, .int .i64 2500, .int .i64 9999, .int .i64 499, .int .i64 10000] 3)) w0.heap.size 3 (ints [500, 2000, 2500, 9999, 499, 10000])) := Lib.hid (RowIs.new w0 3 (ints [500, 2000, 2500, 9999, 499, 10000]))
  rw [← hs0]
  refine (HP.out _ _ 0 24 HC1.out (by omega) (by omega) (by omega)).mono ?_
  rintro e w1 ⟨p, rfl, ⟨p1, p2⟩, hc1, hg1⟩
  obtain ⟨q, hq, hq1⟩ : ∃ q : Nat, p.tdiv 11 = (q : Int) ∧ q ≤ 2 := ⟨(p / 11).toNat, by rw [Int.tdiv_eq_ediv_of_nonneg p1]; omega, by omega⟩
  have HC2 := Lib.hid hc1
  have HG2 := Lib.hid (grownBy_trans HG1.out hg1)
  have HX2 := Lib.hid (HX1.out.grown hg1 (by intro e; injection e with e; omega))
  clear hc1 hg1
  go_wp2_with fail
  have hlen : (([500, 2000, 2500, 9999, 499, 10000] : List Int).take (4 + q)).length = 4 + q := by simp; omega
  have H := HQ.out w.heap.size 2 6 (some ⟨w0.heap.size, 0, none⟩) (([500, 2000, 2500, 9999, 499, 10000] : List Int).take (4 + q)) w1 HC2.out (by omega) (by rw [hlen]; omega) (by rw [hlen]; omega) (reads_take HX2.out.reads _) (fun r hr => by injection hr with hr; rw [← hr]; show w0.heap.size ≠ w.heap.size; omega)
  rw [hlen] at H
  rw [← hs0]
  refine H.mono ?_
  rintro e w2 ⟨x, rfl, hx, hc2, hg2⟩
  have hx2 := List.mem_of_mem_take hx
  have x1 : 499 ≤ x ∧ x ≤ 10000 := by simp at hx2; omega
  have HC3 := Lib.hid hc2
  have HG3 := Lib.hid (grownBy_trans HG2.out hg2)
  clear hx hx2 hc2 hg2 H hlen
  go_wp2_with fail
  refine (HA.out _ _ _ HC3.out (by omega)).mono ?_
  rintro e w3 ⟨y, rfl, y1, hc2, hg2⟩
  have HB := Lib.hid (cur_belowH HB0.out (grownBy_trans HG3.out hg2) (Nat.le_refl _))
  clear hc2 hg2
  go_wp2_with fail
  go_ret2
  exact ⟨x, y, rfl, x1, y1, HB.out⟩
end Go.Proofs.Ytidiecffahaojaa
