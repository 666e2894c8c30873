/- A text spoilt, and the drawn text of ParseStamp. -/
import Derived.Test.YtoomjionojfjgaaDoorCurG
namespace Go.Proofs.YtoomjionojfjgaaDoor
open Go.RowKit

theorem DrawnT.fin {w w2 : World} {g n m : Nat} {P : ByteArray → Prop} {t : ByteArray} (k : Nat) (h : Cur w2 g n) (hg : w.grownBy w2 (some g)) (hp : P t) (hm : n ≤ m := by omega) : DrawnT w g m P (.returned (.string t)) (w2.drewN k) :=
  ⟨t, rfl, hp, (h.dr k).mono hm, grownBy_trans hg (below_grown' (Dr.below (Dr.of w2 k) _) _)⟩
abbrev withB : ByteArray := ⟨#[58, 46, 32, 99, 48, 49, 53]⟩
set_option maxHeartbeats 2000000 in
set_option maxRecDepth 100000 in
theorem spoilt_any (g n : Nat) (s : ByteArray) (w : World) (h : Cur w g n) (hn : n ≤ 1048000) (h1 : 2 ≤ s.size) (h2 : s.size ≤ 1000) :
    Calls Tryd.prog 35 #[.pointer (some ⟨g, 0, none⟩), .string s, .string ⟨#[58, 46, 32, 99, 48, 49, 53]⟩] w (DrawnT w g (n + 6) (fun t => t.size ≤ 1001)) := by
  have HP := Lib.hid (fun w n m h hn h1 h2 => pick_any g n m w h hn h1 h2)
  have HC := Lib.hid h
  clear h
  cases hne : s.toList.isEmpty
  rotate_left
  · go_enter Tryd.func35, Tryd.ntmps35
    go_wp2_with fail
    go_ret
    exact ⟨_, rfl, by decide, HC.out.mono (by omega), ⟨rfl, rfl, rfl, Nat.le_refl _, fun _ _ _ => rfl⟩⟩
  go_enter Tryd.func35, Tryd.ntmps35
  go_wp2_with fail
  refine (HP.out _ _ (s.size : Int) HC.out (by omega) (by omega) (by omega)).mono ?_
  rintro e w1 ⟨x, rfl, ⟨x1, x2⟩, hc1, hg1⟩
  have HC1 := Lib.hid hc1
  have HG1 := Lib.hid hg1
  clear hc1 hg1
  go_wp2_with fail
  refine (HP.out _ _ 7 HC1.out (by omega) (by omega) (by omega)).mono ?_
  rintro e w2 ⟨y, rfl, ⟨y1, y2⟩, hc2, hg2⟩
  have HC2 := Lib.hid hc2
  have HG2 := Lib.hid (grownBy_trans HG1.out hg2)
  have y3 : y ≤ 7 := by omega
  clear hc2 hg2
  go_wp2_with fail
  obtain ⟨tw, htw⟩ : ∃ tw, tw = ((⟨#[58, 46, 32, 99, 48, 49, 53]⟩ : ByteArray).extract y.toNat 7).extract 0 1 := ⟨_, rfl⟩
  have hts : tw.size ≤ 1 := by rw [htw, ByteArray.size_extract]; omega
  rw [← htw]
  clear htw
  refine (HP.out _ _ 3 HC2.out (by omega) (by omega) (by omega)).mono ?_
  rintro e w3 ⟨z, rfl, ⟨z1, z2⟩, hc3, hg3⟩
  have HC3 := Lib.hid hc3
  have HG3 := Lib.hid (grownBy_trans HG2.out hg3)
  have x3 : x ≤ (s.size : Int) := by omega
  have x4 : 0 ≤ x + 1 := by omega
  have x5 : x + 1 ≤ (s.size : Int) := by omega
  have hwe : IntKind.i64.wrap (x + 1) = x + 1 := IntWalk.i64_in _ (by omega)
  have x6 : 0 ≤ IntKind.i64.wrap (x + 1) := by omega
  have x7 : IntKind.i64.wrap (x + 1) ≤ (s.size : Int) := by omega
  have HW := Lib.hid hwe
  clear hc3 hg3 hwe
  rcases (show z = 0 ∨ z = 1 ∨ z = 2 by omega) with rfl | rfl | rfl
  · have q0 : ((0 : Int) == 0) = true := rfl
    have k1 : ¬ (9223372036854775807 < x.toNat + tw.size) := by omega
    have k2 : ¬ (9223372036854775807 < x.toNat + tw.size + (s.size - x.toNat)) := by omega
    go_wp2_with fail
    go_quiet (fail)
    go_wp2_with fail
    go_ret
    refine DrawnT.fin _ HC3.out HG3.out ?_
    simp [ByteArray.size_append, ByteArray.size_extract]
    omega
  · have q0 : ((1 : Int) == 0) = false := rfl
    have q1 : ((1 : Int) == 1) = true := rfl
    go_wp2_with fail
    go_quiet (fail)
    go_wp2_with fail
    go_ret
    refine DrawnT.fin _ HC3.out HG3.out ?_
    simp [ByteArray.size_append, ByteArray.size_extract]
    omega
  · have q0 : ((2 : Int) == 0) = false := rfl
    have q1 : ((2 : Int) == 1) = false := rfl
    go_wp2_with fail
    go_quiet (fail)
    go_wp2_with fail
    go_ret
    refine DrawnT.fin _ HC3.out HG3.out ?_
    simp [ByteArray.size_append, ByteArray.size_extract]
    omega
theorem textF_bd {c : StampT} (hok : stampOk c = true) : 2 ≤ (textF c).size ∧ (textF c).size ≤ 1000 := by
  obtain ⟨⟨i1, i2⟩, ⟨f1, f2⟩, ⟨k1, k2⟩, y1, y2⟩ := textIn_of hok
  have a1 := numF_size (n := c.id) (by omega) (by omega)
  have a2 := numF_size (n := c.color) (by omega) (by omega)
  have a3 := numF_size (n := c.year) (by omega) (by omega)
  have a4 := (face_size (u := c.face.toNat) (by omega)).2.2.2.2
  have b1 : colonB.size = 2 := rfl
  have b2 : colorB.size = 7 := rfl
  have b3 : blankB.size = 1 := rfl
  simp only [textF, ByteArray.size_append]
  omega
set_option maxHeartbeats 2000000 in
set_option maxRecDepth 100000 in
theorem drawParseStamp_any (a : Option Addr) (cap : Nat) (cs : List Int) (w : World) (hm : cs.length ≤ maxLen) (hr : Reads w a (bytesV cs)) (hz : ∀ z ∈ cs, 0 ≤ z ∧ z ≤ 255) :
    Calls Tryd.prog 10 #[.slice a cs.length cap] w fun e w' => ∃ x : ByteArray, e = .returned (.string x) ∧ x.size ≤ 1001 ∧ Below w.heap.size w w' := by
  have hc0 := cur_newT cap hm hr hz
  have HC0 := Lib.hid hc0
  have HS := Lib.hid (fun w g n id h hn => stamp_any g n id w h hn)
  have HA := Lib.hid (fun w g n h hn => among_lit g n [1, 12, 999] w h hn (by simp) (by simp) #[.int .i64 1, .int .i64 12, .int .i64 999] rfl 3 rfl)
  have HB1 := Lib.hid (fun w g n m h hn h1 h2 => one_any g n m w h hn h1 h2)
  have HP := Lib.hid (fun w g n s h hn h1 h2 => spoilt_any g n s w h hn h1 h2)
  have HK := Lib.hid (fun c w => l2Stamp_any c w)
  have HT := Lib.hid (fun c hok w => l2Text_any c hok w)
  have HB0 := Lib.hid (Go.Joins.below_alloc1 w (.cells #[.slice a cs.length cap, .int .i64 0, .int .u64 0] 61))
  have hs0 : (w.alloc (.cells #[.slice a cs.length cap, .int .i64 0, .int .u64 0] 61)).heap.size = w.heap.size + 1 := by simp
  clear hr hz hc0
  go_enter Tryd.func10, Tryd.ntmps10
  go_wp2_with fail
  generalize w.alloc (.cells #[.slice a cs.length cap, .int .i64 0, .int .u64 0] 61) = w0 at *
  rw [← hs0]
  refine (HA.out _ _ 0 HC0.out (by omega)).mono ?_
  rintro e w1 ⟨y, rfl, _, hc1, hg1⟩
  have HC1 := Lib.hid hc1
  have HG1 := Lib.hid hg1
  clear hc1 hg1
  go_wp2_with fail
  refine (HS.out _ _ _ _ HC1.out (by omega)).mono ?_
  rintro e w2 ⟨c, rfl, hc2, hg2⟩
  have HB2 := Lib.hid (cur_below HB0.out (grownBy_trans HG1.out hg2) (Nat.le_refl _))
  have HC2 := Lib.hid (hc2.alloc (.cells #[.int .i64 c.id, .int .i64 c.face, .int .i64 c.color, .int .i64 c.year] 25))
  have BX : RowIs (w2.alloc (.cells #[.int .i64 c.id, .int .i64 c.face, .int .i64 c.color, .int .i64 c.year] 25)) w2.heap.size 25 c.cells := RowIs.new w2 25 c.cells
  have HB3 := Lib.hid (HB2.out.alloc HB2.out.size (.cells #[.int .i64 c.id, .int .i64 c.face, .int .i64 c.color, .int .i64 c.year] 25))
  have BX2 := Lib.hid BX
  clear hc2 hg2 BX
  go_wp2_with fail
  generalize w2.alloc (.cells #[.int .i64 c.id, .int .i64 c.face, .int .i64 c.color, .int .i64 c.year] 25) = w3 at *
  refine (HK.out c _).mono ?_
  rintro e w4 ⟨rfl, hb⟩
  have HB4 := Lib.hid (HB3.out.trans (hb.mono HB3.out.size))
  have HC4 := Lib.hid (HC2.out.below hb)
  have BX4 := Lib.hid (BX2.out.below hb)
  clear hb
  cases hok : stampOk c
  · go_wp2_with fail
    refine (HB1.out _ _ _ 4 HC4.out (by omega) (by omega) (by omega)).mono ?_
    rintro e w5 ⟨b, rfl, hc5, hg5⟩
    have HC5 := Lib.hid hc5
    have HB5 := Lib.hid (cur_below HB4.out hg5 (Nat.le_refl _))
    clear hc5 hg5
    cases b
    · go_wp2_with fail
      go_ret
      exact ⟨_, rfl, by decide, HB5.out⟩
    · go_wp2_with fail
      refine (HP.out _ _ _ ⟨#[49, 50, 58, 32, 48, 46, 48, 53, 32, 99, 111, 108, 111, 114, 32, 55, 32, 49, 56, 53, 56]⟩ HC5.out (by omega) (by decide) (by decide)).mono ?_
      rintro e w6 ⟨t, rfl, ht, hc6, hg6⟩
      have HB6 := Lib.hid (cur_below HB5.out hg6 (Nat.le_refl _))
      clear hc6 hg6
      go_wp2_with fail
      go_ret
      exact ⟨t, rfl, ht, HB6.out⟩
  · have c0 := BX4.out.cell (j := 0) rfl
    have c1 := BX4.out.cell (j := 1) rfl
    have c2 := BX4.out.cell (j := 2) rfl
    have c3 := BX4.out.cell (j := 3) rfl
    have HSZ := Lib.hid (textF_bd hok)
    go_wp2_with fail
    refine (HT.out c hok _).mono ?_
    rintro e w7 ⟨rfl, hb⟩
    have HB7 := Lib.hid (HB4.out.trans (hb.mono HB4.out.size))
    have HC7 := Lib.hid (HC4.out.below hb)
    clear hb c0 c1 c2 c3
    obtain ⟨h1, h2⟩ := HSZ.out
    generalize textF c = s at *
    go_wp2_with fail
    refine (HB1.out _ _ _ 4 HC7.out (by omega) (by omega) (by omega)).mono ?_
    rintro e w5 ⟨b, rfl, hc5, hg5⟩
    have HC5 := Lib.hid hc5
    have HB5 := Lib.hid (cur_below HB7.out hg5 (Nat.le_refl _))
    clear hc5 hg5
    cases b
    · go_wp2_with fail
      go_ret
      exact ⟨_, rfl, by omega, HB5.out⟩
    · go_wp2_with fail
      refine (HP.out _ _ _ s HC5.out (by omega) h1 h2).mono ?_
      rintro e w6 ⟨t, rfl, ht, hc6, hg6⟩
      have HB6 := Lib.hid (cur_below HB5.out hg6 (Nat.le_refl _))
      clear hc6 hg6
      go_wp2_with fail
      go_ret
      exact ⟨t, rfl, ht, HB6.out⟩
end Go.Proofs.YtoomjionojfjgaaDoor
