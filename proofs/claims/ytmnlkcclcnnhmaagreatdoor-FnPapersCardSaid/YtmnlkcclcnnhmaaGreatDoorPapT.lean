/- A text spoilt, and the drawn text of ParsePaper: never of the kind at which the program panics. -/
import Derived.Test.YtmnlkcclcnnhmaaGreatDoorPapD
import Derived.Test.YtmnlkcclcnnhmaaGreatDoorPapS
namespace Go.Proofs.YtmnlkcclcnnhmaaGreatDoor
open Go.RowKit

theorem DrawnT.fin {w w2 : World} {g n m : Nat} {P : ByteArray → Prop} {t : ByteArray} (k : Nat) (h : Cur w2 g n) (hg : w.grownBy w2 (some g)) (hp : P t) (hm : n ≤ m := by omega) : DrawnT w g m P (.returned (.string t)) (w2.drewN k) :=
  ⟨t, rfl, hp, (h.dr k).mono hm, grownBy_trans hg (below_grown' (Dr.below (Dr.of w2 k) _) _)⟩
abbrev withB : ByteArray := ⟨#[48, 32, 117, 109, 116, 49, 97]⟩
theorem with_no (a b c d : Nat) : (119 : UInt8) ∉ ((withB.extract a b).extract c d).data.toList := by
  rw [Lib.extract_data, Lib.extract_data]
  intro h
  have h2 := List.mem_of_mem_drop (List.mem_of_mem_take (List.mem_of_mem_drop (List.mem_of_mem_take h)))
  revert h2
  decide
def SpoiltP (t : ByteArray) : Prop := t.size ≤ 1001 ∧ Good 3 t
set_option maxHeartbeats 2000000 in
set_option maxRecDepth 100000 in
theorem spoilt_any (g n : Nat) (s : ByteArray) (w : World) (h : Cur w g n) (hn : n ≤ 1048000) (h1 : s.toList.isEmpty = true ∨ 2 ≤ s.size) (h2 : s.size ≤ 1000) (hgood : Good 4 s) :
    Calls Tryz.prog 42 #[.pointer (some ⟨g, 0, none⟩), .string s, .string ⟨#[48, 32, 117, 109, 116, 49, 97]⟩] w (DrawnT w g (n + 6) SpoiltP) := by
  have HP := Lib.hid (fun w n m h hn h1 h2 => pick_any g n m w h hn h1 h2)
  have HC := Lib.hid h
  have HG := Lib.hid hgood
  clear h hgood
  cases hne : s.toList.isEmpty
  rotate_left
  · go_enter Tryz.func42, Tryz.ntmps42
    go_wp2_with fail
    go_ret
    exact ⟨_, rfl, ⟨by decide, .inl (by decide)⟩, HC.out.mono (by omega), ⟨rfl, rfl, rfl, Nat.le_refl _, fun _ _ _ => rfl⟩⟩
  have h1 : 2 ≤ s.size := h1.elim (fun h => by rw [hne] at h; cases h) id
  go_enter Tryz.func42, Tryz.ntmps42
  go_wp2_with fail
  refine (HP.out _ _ (s.size : Int) HC.out (by omega) (by omega) (by omega)).mono ?_
  rintro e w1 ⟨x, rfl, ⟨x1, x2⟩, hc1, hg1⟩
  have HC1 := Lib.hid hc1
  have HG1 := Lib.hid hg1
  clear hc1 hg1
  go_wp2_with fail
  refine (HP.out _ _ 7 HC1.out (by omega) (by omega) (by omega)).mono ?_
  rintro e w2 ⟨y, rfl, ⟨y1, y2⟩, hc2, hg2⟩
  have HC2 := Lib.hid hc2
  have HG2 := Lib.hid (grownBy_trans HG1.out hg2)
  have y3 : y ≤ 7 := by omega
  clear hc2 hg2
  go_wp2_with fail
  obtain ⟨tw, htw⟩ : ∃ tw, tw = ((⟨#[48, 32, 117, 109, 116, 49, 97]⟩ : ByteArray).extract y.toNat 7).extract 0 1 := ⟨_, rfl⟩
  have hts : tw.size ≤ 1 := by rw [htw, ByteArray.size_extract]; omega
  have HTN : Hid ((119 : UInt8) ∉ tw.data.toList) := Lib.hid (by rw [htw]; exact with_no _ _ _ _)
  rw [← htw]
  clear htw
  refine (HP.out _ _ 3 HC2.out (by omega) (by omega) (by omega)).mono ?_
  rintro e w3 ⟨z, rfl, ⟨z1, z2⟩, hc3, hg3⟩
  have HC3 := Lib.hid hc3
  have HG3 := Lib.hid (grownBy_trans HG2.out hg3)
  have x3 : x ≤ (s.size : Int) := by omega
  have x4 : 0 ≤ x + 1 := by omega
  have x5 : x + 1 ≤ (s.size : Int) := by omega
  have hwe : IntKind.i64.wrap (x + 1) = x + 1 := IntWalk.i64_in _ (by omega)
  have x6 : 0 ≤ IntKind.i64.wrap (x + 1) := by omega
  have x7 : IntKind.i64.wrap (x + 1) ≤ (s.size : Int) := by omega
  have HX : Hid ((x + 1).toNat = x.toNat + 1) := Lib.hid (by omega)
  clear hc3 hg3 hwe
  rcases (show z = 0 ∨ z = 1 ∨ z = 2 by omega) with rfl | rfl | rfl
  · have q0 : ((0 : Int) == 0) = true := rfl
    have k1 : ¬ (9223372036854775807 < x.toNat + tw.size) := by omega
    have k2 : ¬ (9223372036854775807 < x.toNat + tw.size + (s.size - x.toNat)) := by omega
    go_wp2_with fail
    go_quiet (fail)
    go_wp2_with fail
    go_ret
    refine DrawnT.fin _ HC3.out HG3.out ⟨?_, ?_⟩
    · simp [ByteArray.size_append, ByteArray.size_extract]
      omega
    · exact HG.out.ins HTN.out x.toNat
  · have q0 : ((1 : Int) == 0) = false := rfl
    have q1 : ((1 : Int) == 1) = true := rfl
    go_wp2_with fail
    go_quiet (fail)
    go_wp2_with fail
    go_ret
    refine DrawnT.fin _ HC3.out HG3.out ⟨?_, ?_⟩
    · simp [ByteArray.size_append, ByteArray.size_extract]
      omega
    · have := HG.out.put HTN.out x.toNat
      rw [← HX.out] at this
      exact this
  · have q0 : ((2 : Int) == 0) = false := rfl
    have q1 : ((2 : Int) == 1) = false := rfl
    go_wp2_with fail
    go_quiet (fail)
    go_wp2_with fail
    go_ret
    refine DrawnT.fin _ HC3.out HG3.out ⟨?_, ?_⟩
    · simp [ByteArray.size_append, ByteArray.size_extract]
      omega
    · have := HG.out.del x.toNat
      rw [← HX.out] at this
      exact this
set_option maxHeartbeats 2000000 in
set_option maxRecDepth 100000 in
theorem drawParsePaper_any (a : Option Addr) (cap : Nat) (cs : List Int) (w : World) (hm : cs.length ≤ maxLen) (hr : Reads w a (bytesV cs)) (hz : ∀ z ∈ cs, 0 ≤ z ∧ z ≤ 255) :
    Calls Tryz.prog 10 #[.slice a cs.length cap] w fun e w' => ∃ x : ByteArray, e = .returned (.string x) ∧ SpoiltP x ∧ Below w.heap.size w w' := by
  have hc0 := cur_newT cap hm hr hz
  have HC0 := Lib.hid hc0
  have HS := Lib.hid (fun w g n id h hn => paper3_any g n id w h hn)
  have HA := Lib.hid (fun w g n h hn => among_lit g n [1, 42, 99] w h hn (by simp) (by simp) #[.int .i64 1, .int .i64 42, .int .i64 99] rfl 3 rfl)
  have HB1 := Lib.hid (fun w g n m h hn h1 h2 => one_any g n m w h hn h1 h2)
  have HP := Lib.hid (fun w g n s h hn h1 h2 h3 => spoilt_any g n s w h hn h1 h2 h3)
  have HK := Lib.hid (fun c w h => specPaperText_any c w h)
  have HB0 := Lib.hid (Go.Joins.below_alloc1 w (.cells #[.slice a cs.length cap, .int .i64 0, .int .u64 0] 63))
  have hs0 : (w.alloc (.cells #[.slice a cs.length cap, .int .i64 0, .int .u64 0] 63)).heap.size = w.heap.size + 1 := by simp
  clear hr hz hc0
  go_enter Tryz.func10, Tryz.ntmps10
  go_wp2_with fail
  generalize w.alloc (.cells #[.slice a cs.length cap, .int .i64 0, .int .u64 0] 63) = w0 at *
  rw [← hs0]
  refine (HA.out _ _ 0 HC0.out (by omega)).mono ?_
  rintro e w1 ⟨y, rfl, _, hc1, hg1⟩
  have HC1 := Lib.hid hc1
  have HG1 := Lib.hid hg1
  clear hc1 hg1
  go_wp2_with fail
  refine (HS.out _ _ _ _ HC1.out (by omega)).mono ?_
  rintro e w2 ⟨c, rfl, hcm, hc2, hg2⟩
  have HB2 := Lib.hid (cur_below HB0.out (grownBy_trans HG1.out hg2) (Nat.le_refl _))
  have HC2 := Lib.hid hc2
  obtain ⟨s, hs⟩ : ∃ s, s = (if paperOk c = true then pt3 c else .empty) := ⟨_, rfl⟩
  have HQ := HK.out c
  rw [← hs] at HQ
  have HQH := Lib.hid HQ
  have HE : Hid (s.toList.isEmpty = true ∨ 2 ≤ s.size) := Lib.hid (by
    rw [hs]; split
    · rename_i h; exact .inr (pt3_size c h).1
    · exact .inl (by rw [Lib.toList_data]; rfl))
  have HSZ : Hid (s.size ≤ 1000) := Lib.hid (by
    rw [hs]; split
    · rename_i h; have := (pt3_size c h).2; omega
    · decide)
  have HGD : Hid (Good 4 s) := Lib.hid (by
    rw [hs]; split
    · rename_i h; exact Good.text h
    · exact Good.empty 4)
  clear hc2 hg2 HQ hs HK
  go_wp2_with fail
  refine (HQH.out _ (by unfold maxLen; omega)).mono ?_
  rintro e w3 ⟨rfl, hb⟩
  have HB3 := Lib.hid (HB2.out.trans (hb.mono HB2.out.size))
  have HC3 := Lib.hid (HC2.out.below hb)
  clear hb
  go_wp2_with fail
  refine (HB1.out _ _ _ 3 HC3.out (by omega) (by omega) (by omega)).mono ?_
  rintro e w5 ⟨b, rfl, hc5, hg5⟩
  have HC5 := Lib.hid hc5
  have HB5 := Lib.hid (cur_below HB3.out hg5 (Nat.le_refl _))
  clear hc5 hg5
  cases b
  · go_wp2_with fail
    go_ret
    exact ⟨s, rfl, ⟨by have := HSZ.out; omega, HGD.out.mono (by omega)⟩, HB5.out⟩
  · go_wp2_with fail
    refine (HP.out _ _ _ s HC5.out (by omega) HE.out HSZ.out HGD.out).mono ?_
    rintro e w6 ⟨t, rfl, ht, hc6, hg6⟩
    have HB6 := Lib.hid (cur_below HB5.out hg6 (Nat.le_refl _))
    clear hc6 hg6
    go_wp2_with fail
    go_ret
    exact ⟨t, rfl, ht, HB6.out⟩
end Go.Proofs.YtmnlkcclcnnhmaaGreatDoor
