/- The draws of the law on stamps. -/
import Derived.Test.YtoomjionojfjgaaDoorCurL
import Derived.Test.YtoomjionojfjgaaDoorParseR
namespace Go.Proofs.YtoomjionojfjgaaDoor
open Go.RowKit

theorem cur_below {w w0 w' : World} {g : Nat} (hb : Below w.heap.size w w0) (hg : w0.grownBy w' (some g)) (hl : w.heap.size ≤ g) : Below w.heap.size w w' := hb.grown hg hb.size (fun q hq => by injection hq with hq; omega)
theorem own_base4 {w : World} {b b' n : Nat} {e : TypeId} {v : Value} {xs : List Value} (h : w.ownsRow b e 4 v n xs) (hb : b' ≤ b) : w.ownsRow b' e 4 v n xs := by
  rcases h with ⟨hl, h0 | ⟨g, c, cur, e1, e2, e3⟩⟩
  · exact ⟨hl, .inl h0⟩
  · exact ⟨hl, .inr ⟨g, c, cur, e1, Nat.le_trans hb e2, e3⟩⟩
set_option maxHeartbeats 1000000 in
set_option maxRecDepth 100000 in
theorem drawIsStamp_any (a : Option Addr) (cap : Nat) (cs : List Int) (w : World) (hm : cs.length ≤ maxLen) (hr : Reads w a (bytesV cs)) (hz : ∀ z ∈ cs, 0 ≤ z ∧ z ≤ 255) :
    Calls Tryd.prog 23 #[.slice a cs.length cap] w fun e w' => ∃ c : StampT, e = .returned c.val ∧ Below w.heap.size w w' := by
  have B1 := Go.Joins.below_alloc1 w (.cells #[.int .i64 0, .int .i64 0, .int .i64 0, .int .i64 0] 25)
  have hs1 : (w.alloc (.cells #[.int .i64 0, .int .i64 0, .int .i64 0, .int .i64 0] 25)).heap.size = w.heap.size + 1 := by simp
  have hc0 := cur_newT cap hm (hr.below B1) hz
  have BX : RowIs (w.alloc (.cells #[.int .i64 0, .int .i64 0, .int .i64 0, .int .i64 0] 25)) w.heap.size 25 stamp0.cells := RowIs.new w 25 stamp0.cells
  have BX0 := Lib.hid (BX.alloc (.cells #[.slice a cs.length cap, .int .i64 0, .int .u64 0] 61))
  have HB0 := Lib.hid (B1.alloc B1.size (.cells #[.slice a cs.length cap, .int .i64 0, .int .u64 0] 61))
  rw [hs1] at hc0
  have HC0 := Lib.hid hc0
  have HS := Lib.hid (fun w g n id h hn => stamp_any g n id w h hn)
  have HA := Lib.hid (fun w g n h hn => among_lit g n [1, 12, 999, 0, 1000] w h hn (by simp) (by simp) #[.int .i64 1, .int .i64 12, .int .i64 999, .int .i64 0, .int .i64 1000] rfl 5 rfl)
  clear hr hz B1 BX hc0
  go_enter Tryd.func23, Tryd.ntmps23
  go_wp2_with fail
  have hs2 : ((w.alloc (.cells #[.int .i64 0, .int .i64 0, .int .i64 0, .int .i64 0] 25)).alloc (.cells #[.slice a cs.length cap, .int .i64 0, .int .u64 0] 61)).heap.size = w.heap.size + 2 := by simp
  generalize (w.alloc (.cells #[.int .i64 0, .int .i64 0, .int .i64 0, .int .i64 0] 25)).alloc (.cells #[.slice a cs.length cap, .int .i64 0, .int .u64 0] 61) = w0 at *
  rw [← hs2]
  refine (HA.out _ _ 0 HC0.out (by omega)).mono ?_
  rintro e w1 ⟨y, rfl, _, hc1, hg1⟩
  have HC1 := Lib.hid hc1
  have HG1 := Lib.hid hg1
  clear hc1 hg1
  go_wp2_with fail
  refine (HS.out _ _ _ _ HC1.out (by omega)).mono ?_
  rintro e w2 ⟨c, rfl, hc2, hg2⟩
  have hg := grownBy_trans HG1.out hg2
  have HB2 := Lib.hid (cur_below HB0.out hg (by omega))
  have BX2 := Lib.hid (BX0.out.grown hg (by intro e; injection e with e; omega))
  have f0 := BX2.out.free 0
  have f1 := BX2.out.free 1
  have f2 := BX2.out.free 2
  have f3 := BX2.out.free 3
  have c0 := BX2.out.cell (j := 0) rfl
  have c1 := BX2.out.cell (j := 1) rfl
  have c2 := BX2.out.cell (j := 2) rfl
  have c3 := BX2.out.cell (j := 3) rfl
  clear hc2 hg2 hg
  go_wp2_with fail
  have F2 := stored4s BX2.out rfl c
  have F1 := below4 HB2.out (Nat.le_refl _) (.int .i64 c.id) (.int .i64 c.face) (.int .i64 c.color) (.int .i64 c.year)
  clear f0 f1 f2 f3 c0 c1 c2 c3
  generalize (((w2.setCell ⟨w.heap.size, 0, none⟩ (.int .i64 c.id)).setCell ⟨w.heap.size, 1, none⟩ (.int .i64 c.face)).setCell ⟨w.heap.size, 2, none⟩ (.int .i64 c.color)).setCell ⟨w.heap.size, 3, none⟩ (.int .i64 c.year) = w99 at *
  have d0 := F2.cell (j := 0) rfl
  have d1 := F2.cell (j := 1) rfl
  have d2 := F2.cell (j := 2) rfl
  have d3 := F2.cell (j := 3) rfl
  exact bodyPost_ret (v := c.val) (by simp [results, Tryd.results23, go_sem, d0, d1, d2, d3]) rfl ⟨c, rfl, F1⟩
set_option maxHeartbeats 1000000 in
set_option maxRecDepth 100000 in
theorem drawStampText_any (a : Option Addr) (cap : Nat) (cs : List Int) (w : World) (hm : cs.length ≤ maxLen) (hr : Reads w a (bytesV cs)) (hz : ∀ z ∈ cs, 0 ≤ z ∧ z ≤ 255) :
    Calls Tryd.prog 5 #[.slice a cs.length cap] w fun e w' => ∃ c : StampT, e = .returned c.val ∧ Below w.heap.size w w' := by
  have B1 := Go.Joins.below_alloc1 w (.cells #[.int .i64 0, .int .i64 0, .int .i64 0, .int .i64 0] 25)
  have H := Lib.hid (drawIsStamp_any a cap cs _ hm (hr.below B1) hz)
  have BX : Hid (RowIs (w.alloc (.cells #[.int .i64 0, .int .i64 0, .int .i64 0, .int .i64 0] 25)) w.heap.size 25 stamp0.cells) := Lib.hid (RowIs.new w 25 stamp0.cells)
  have HB0 := Lib.hid B1
  clear hr hz B1
  go_enter Tryd.func5, Tryd.ntmps5
  go_wp2_with fail
  refine H.out.mono ?_
  rintro e w2 ⟨c, rfl, hb⟩
  have HB2 := Lib.hid (HB0.out.trans (hb.mono HB0.out.size))
  have BX2 := Lib.hid (BX.out.below hb)
  have f0 := BX2.out.free 0
  have f1 := BX2.out.free 1
  have f2 := BX2.out.free 2
  have f3 := BX2.out.free 3
  have c0 := BX2.out.cell (j := 0) rfl
  have c1 := BX2.out.cell (j := 1) rfl
  have c2 := BX2.out.cell (j := 2) rfl
  have c3 := BX2.out.cell (j := 3) rfl
  clear hb
  go_wp2_with fail
  have F2 := stored4s BX2.out rfl c
  have F1 := below4 HB2.out (Nat.le_refl _) (.int .i64 c.id) (.int .i64 c.face) (.int .i64 c.color) (.int .i64 c.year)
  clear f0 f1 f2 f3 c0 c1 c2 c3
  generalize (((w2.setCell ⟨w.heap.size, 0, none⟩ (.int .i64 c.id)).setCell ⟨w.heap.size, 1, none⟩ (.int .i64 c.face)).setCell ⟨w.heap.size, 2, none⟩ (.int .i64 c.color)).setCell ⟨w.heap.size, 3, none⟩ (.int .i64 c.year) = w99 at *
  have d0 := F2.cell (j := 0) rfl
  have d1 := F2.cell (j := 1) rfl
  have d2 := F2.cell (j := 2) rfl
  have d3 := F2.cell (j := 3) rfl
  exact bodyPost_ret (v := c.val) (by simp [results, Tryd.results5, go_sem, d0, d1, d2, d3]) rfl ⟨c, rfl, F1⟩
/-- drawn stamps, in a list of the draw's own -/
def ListD (w : World) (ad : Option Addr) (cp : Nat) (zs : List StampT) (w' : World) : Prop := zs.length ≤ 13 ∧ w'.ownsRow w.heap.size 25 4 (.slice ad zs.length cp) zs.length (stamps zs) ∧ Below w.heap.size w w'
theorem ListD.reads {w w' : World} {ad : Option Addr} {cp : Nat} {zs : List StampT} (h : ListD w ad cp zs w') : Reads w' ad (stamps zs) := own_reads h.2.1
set_option maxHeartbeats 1000000 in
set_option maxRecDepth 100000 in
theorem drawAreStamps_any (a : Option Addr) (cap : Nat) (cs : List Int) (w : World) (hm : cs.length ≤ maxLen) (hr : Reads w a (bytesV cs)) (hz : ∀ z ∈ cs, 0 ≤ z ∧ z ≤ 255) :
    Calls Tryd.prog 38 #[.slice a cs.length cap] w fun e w' => ∃ ad cp zs, e = .returned (.slice ad zs.length cp) ∧ ListD w ad cp zs w' := by
  have HC := Lib.hid (cur_newT cap hm hr hz)
  have HS := Lib.hid (fun w g n h hn => stamps_any g n w h hn)
  have HB0 := Lib.hid (Go.Joins.below_alloc1 w (.cells #[.slice a cs.length cap, .int .i64 0, .int .u64 0] 61))
  clear hr hz
  go_enter Tryd.func38, Tryd.ntmps38
  go_wp2_with fail
  generalize w.alloc (.cells #[.slice a cs.length cap, .int .i64 0, .int .u64 0] 61) = w0 at *
  refine (HS.out _ _ 0 HC.out (by omega)).mono ?_
  rintro e w1 ⟨ad, cp, zs, rfl, hl, ho, hc1, hg1⟩
  have HO := Lib.hid (own_base4 ho HB0.out.size)
  have HB1 := Lib.hid (cur_below HB0.out hg1 (Nat.le_refl _))
  clear ho hc1 hg1
  go_wp2_with fail
  go_ret
  exact ⟨ad, cp, zs, rfl, hl, HO.out, HB1.out⟩
set_option maxHeartbeats 1000000 in
set_option maxRecDepth 100000 in
theorem drawByColor_any (a : Option Addr) (cap : Nat) (cs : List Int) (w : World) (hm : cs.length ≤ maxLen) (hr : Reads w a (bytesV cs)) (hz : ∀ z ∈ cs, 0 ≤ z ∧ z ≤ 255) :
    Calls Tryd.prog 12 #[.slice a cs.length cap] w fun e w' => ∃ ad cp zs, e = .returned (.slice ad zs.length cp) ∧ ListD w ad cp zs w' := by
  have H := Lib.hid (drawAreStamps_any a cap cs w hm hr hz)
  clear hr hz
  go_enter Tryd.func12, Tryd.ntmps12
  go_wp2_with fail
  refine H.out.mono ?_
  rintro e w1 ⟨ad, cp, zs, rfl, h⟩
  have HL := Lib.hid h
  clear h
  go_wp2_with fail
  go_ret
  exact ⟨ad, cp, zs, rfl, HL.out⟩
set_option maxHeartbeats 1000000 in
set_option maxRecDepth 100000 in
theorem drawIssuedBy_any (a : Option Addr) (cap : Nat) (cs : List Int) (w : World) (hm : cs.length ≤ maxLen) (hr : Reads w a (bytesV cs)) (hz : ∀ z ∈ cs, 0 ≤ z ∧ z ≤ 255) :
    Calls Tryd.prog 16 #[.slice a cs.length cap] w fun e w' => ∃ (ad : Option Addr) (cp : Nat) (zs : List StampT) (yr : Int), e = .returned (.tuple #[.slice ad zs.length cp, .int .i64 yr]) ∧ ListD w ad cp zs w' := by
  have HC := Lib.hid (cur_newT cap hm hr hz)
  have HS := Lib.hid (fun w g n h hn => stamps_any g n w h hn)
  have HA := Lib.hid (fun w g n h hn => among_lit g n [1840, 1857, 1858, 1900, 2100, 1839, 2101] w h hn (by simp) (by simp) #[.int .i64 1840, .int .i64 1857, .int .i64 1858, .int .i64 1900, .int .i64 2100, .int .i64 1839, .int .i64 2101] rfl 7 rfl)
  have HB0 := Lib.hid (Go.Joins.below_alloc1 w (.cells #[.slice a cs.length cap, .int .i64 0, .int .u64 0] 61))
  have hlt := HC.out.lt
  clear hr hz
  go_enter Tryd.func16, Tryd.ntmps16
  go_wp2_with fail
  generalize w.alloc (.cells #[.slice a cs.length cap, .int .i64 0, .int .u64 0] 61) = w0 at *
  refine (HS.out _ _ 0 HC.out (by omega)).mono ?_
  rintro e w1 ⟨ad, cp, zs, rfl, hl, ho, hc1, hg1⟩
  have HO0 := Lib.hid ho
  have HO := Lib.hid (own_base4 ho HB0.out.size)
  have HC1 := Lib.hid hc1
  have HB1 := Lib.hid (cur_below HB0.out hg1 (Nat.le_refl _))
  clear ho hc1 hg1
  go_wp2_with fail
  refine (HA.out _ _ _ HC1.out (by omega)).mono ?_
  rintro e w2 ⟨y, rfl, _, hc2, hg2⟩
  have HB2 := Lib.hid (cur_below HB1.out hg2 (Nat.le_refl _))
  have HO2 := Lib.hid (own_kept HO.out hg2 (fun q hq e => by have := (HO0.out.lt q hq).1; injection e with e; omega))
  clear hc2 hg2
  go_wp2_with fail
  go_ret2
  exact ⟨ad, cp, zs, _, rfl, hl, HO2.out, HB2.out⟩
set_option maxHeartbeats 1000000 in
set_option maxRecDepth 100000 in
theorem drawFaceText_any (a : Option Addr) (cap : Nat) (cs : List Int) (w : World) (hm : cs.length ≤ maxLen) (hr : Reads w a (bytesV cs)) (hz : ∀ z ∈ cs, 0 ≤ z ∧ z ≤ 255) :
    Calls Tryd.prog 20 #[.slice a cs.length cap] w fun e w' => ∃ x : Int, e = .returned (.int .i64 x) ∧ (-1 ≤ x ∧ x ≤ 10000) ∧ Below w.heap.size w w' := by
  have HC := Lib.hid (cur_newT cap hm hr hz)
  have HA := Lib.hid (fun w g n h hn => among_lit g n [0, 5, 50, 100, 1234, 9999, 10000, -1] w h hn (by simp) (by simp) #[.int .i64 0, .int .i64 5, .int .i64 50, .int .i64 100, .int .i64 1234, .int .i64 9999, .int .i64 10000, .int .i64 (-1)] rfl 8 rfl)
  have HB0 := Lib.hid (Go.Joins.below_alloc1 w (.cells #[.slice a cs.length cap, .int .i64 0, .int .u64 0] 61))
  clear hr hz
  go_enter Tryd.func20, Tryd.ntmps20
  go_wp2_with fail
  have hs0 : (w.alloc (.cells #[.slice a cs.length cap, .int .i64 0, .int .u64 0] 61)).heap.size = w.heap.size + 1 := by simp
  generalize w.alloc (.cells #[.slice a cs.length cap, .int .i64 0, .int .u64 0] 61) = w0 at *
  rw [← hs0]
  refine (HA.out _ _ 0 HC.out (by omega)).mono ?_
  rintro e w1 ⟨x, rfl, hx, hc1, hg1⟩
  have HB1 := Lib.hid (cur_below HB0.out hg1 (Nat.le_refl _))
  have hx2 : -1 ≤ x ∧ x ≤ 10000 := by simp at hx; omega
  clear hc1 hg1 hx
  go_wp2_with fail
  go_ret
  exact ⟨x, rfl, hx2, HB1.out⟩
end Go.Proofs.YtoomjionojfjgaaDoor
