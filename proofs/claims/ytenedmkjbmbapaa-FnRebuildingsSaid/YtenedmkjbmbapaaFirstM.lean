/- FirstRebuilding: both sides' contracts. -/
import Derived.Test.YtenedmkjbmbapaaFirstI
namespace Go.Proofs.Ytenedmkjbmbapaa
open Go.RowKit

def firstR (r c : Int) (zss : List (List ByteArray)) : Leaf × Bool := if askedB r c zss = true then firstL (leaves zss (blankS r.toNat c.toNat) []) else (([], []), false)
set_option maxRecDepth 100000 in
set_option maxHeartbeats 4000000 in
theorem specFirst_any (r c : Int) (a : Option Addr) (cap : Nat) (bs : List BlkT) (w : World) (hm : bs.length ≤ maxLen) (hf : Fits bs) (hb : BlksAt w a bs) :
    Calls Try.prog 13 #[.int .i64 r, .int .i64 c, .slice a bs.length cap] w (FirstOut w.heap.size w (firstR r c (zssB bs))) := by
  have hA := l4Asked_any r c a cap bs w hm hf hb
  have HB := Lib.hid hb
  clear hb hf hm
  cases e1 : askedB r c (zssB bs)
  · have E1 := Lib.hid (show firstR r c (zssB bs) = (([], []), false) by rw [firstR, e1]; rfl)
    rw [E1.out]
    rw [e1] at hA
    have HA := Lib.hid hA
    clear hA e1
    go_enter Try.func13, Try.ntmps13
    go_wp2_with fail
    refine HA.out.mono ?_
    rintro e w1 ⟨rfl, hb⟩
    have HB1 := Lib.hid hb
    clear hb
    go_wp2_with fail
    go_ret3
    have o1 := own_newP w1 w.heap.size HB1.out.size
    have o2 : ((w1.alloc (.cells #[] 54)).alloc (.cells #[] 9)).ownsRow w.heap.size 9 1 (.slice (some ⟨w1.heap.size + 1, 0, none⟩) 0 0) 0 [] := RowIs.owns (by have := RowIs.new (w1.alloc (.cells #[] 54)) 9 ([] : List Value); simpa using this) (n := 0) (sz := 1) rfl (by unfold maxLen; omega) (by have := HB1.out.size; omega)
    exact ⟨_, _, _, _, rfl, o1.alloc _, o2, (HB1.out.alloc HB1.out.size _).alloc (by have := HB1.out.size; simp; omega) _⟩
  rw [e1] at hA
  have HA := Lib.hid hA
  obtain ⟨⟨r1, r2⟩, ⟨c1, c2⟩, hl4, hgood⟩ := asked_bd e1
  obtain ⟨r, rfl⟩ : ∃ n : Nat, r = (n : Int) := ⟨r.toNat, by omega⟩
  obtain ⟨c, rfl⟩ : ∃ n : Nat, c = (n : Int) := ⟨c.toNat, by omega⟩
  have E1 := Lib.hid (show firstR r c (zssB bs) = firstL (leaves (zssB bs) (blankS r c) []) by rw [firstR, e1]; rfl)
  rw [E1.out]
  have HBL := Lib.hid (fun w => l4Blank_any r c w (by omega) (by omega))
  have HG := Lib.hid (blankS_grid (r := r) (c := c) (by omega) (by omega) (by omega) (by omega))
  have HFI := Lib.hid (fun sa sc pg pc w' h2 h3 h4 h5 => l4First_any w.heap.size a cap bs hl4 hgood bs.length 0 (by omega) (by omega) sa sc (blankS r c) pg pc [] w' HG.out rfl h2 h3 h4 h5)
  simp only [List.drop_zero] at HFI
  generalize blankS r c = bl at *
  generalize firstL (leaves (zssB bs) bl []) = res at *
  clear hA e1 hgood
  go_enter Try.func13, Try.ntmps13
  go_wp2_with fail
  refine HA.out.mono ?_
  rintro e w1 ⟨rfl, hb⟩
  have HB1 := Lib.hid hb
  clear hb
  go_wp2_with fail
  refine (HBL.out _).mono ?_
  rintro e w2 ⟨ad, cp, rfl, hown, hb⟩
  have HR2 := Lib.hid (World.ownsRow.mono hown HB1.out.size)
  have HB2 := Lib.hid (HB1.out.trans (hb.mono HB1.out.size))
  have HO2 := Lib.hid (own_newP w2 w.heap.size HB2.out.size)
  clear hown hb
  go_wp2_with fail
  refine (HFI.out ad cp w2.heap.size 0 (w2.alloc (.cells #[] 54)) (Nat.le_trans HB2.out.size (by simp)) (HR2.out.alloc _) HO2.out ((HB.out.below HB2.out).below (Go.Joins.below_alloc1 w2 _))).mono ?_
  rintro e w3 ⟨pa, pc, sa, sc, rfl, hp, hs, hb⟩
  have HP := Lib.hid hp
  have HS := Lib.hid hs
  have HB3 := Lib.hid ((HB2.out.alloc HB2.out.size _).trans (hb.mono (Nat.le_trans HB2.out.size (by simp))))
  clear hp hs hb
  go_wp2_with fail
  go_ret3
  exact ⟨_, _, _, _, rfl, HP.out, HS.out, HB3.out⟩
set_option maxRecDepth 100000 in
set_option maxHeartbeats 4000000 in
theorem implFirst_any (r c : Int) (a : Option Addr) (cap : Nat) (bs : List BlkT) (w : World) (hm : bs.length ≤ maxLen) (hcap : bs.length ≤ cap) (hf : Fits bs) (hb : BlksAt w a bs) :
    Calls Try.prog 14 #[.int .i64 r, .int .i64 c, .slice a bs.length cap] w (FirstOut w.heap.size w (firstR r c (zssB bs))) := by
  have hA := rebuildingFits_any r c a cap bs w hm hf hb
  have HB := Lib.hid hb
  clear hb hf hm
  cases e1 : askedB r c (zssB bs)
  · have E1 := Lib.hid (show firstR r c (zssB bs) = (([], []), false) by rw [firstR, e1]; rfl)
    rw [E1.out]
    rw [e1] at hA
    have HA := Lib.hid hA
    clear hA e1
    go_enter Try.func14, Try.ntmps14
    go_wp2_with fail
    refine HA.out.mono ?_
    rintro e w1 ⟨rfl, hb⟩
    have HB1 := Lib.hid hb
    clear hb
    go_wp2_with fail
    go_ret3
    exact ⟨none, 0, none, 0, rfl, World.ownsRow_nil _ _ _ _, World.ownsRow_nil _ _ _ _, HB1.out⟩
  rw [e1] at hA
  have HA := Lib.hid hA
  obtain ⟨⟨r1, r2⟩, ⟨c1, c2⟩, hl4, hgood⟩ := asked_bd e1
  obtain ⟨r, rfl⟩ : ∃ n : Nat, r = (n : Int) := ⟨r.toNat, by omega⟩
  obtain ⟨c, rfl⟩ : ∃ n : Nat, c = (n : Int) := ⟨c.toNat, by omega⟩
  have E1 := Lib.hid (show firstR r c (zssB bs) = firstL (leaves (zssB bs) (blankS r c) []) by rw [firstR, e1]; rfl)
  rw [E1.out]
  have HBL := Lib.hid (fun w => emptySheet_any r c w (by omega) (by omega) (by omega))
  have HG := Lib.hid (blankS_grid (r := r) (c := c) (by omega) (by omega) (by omega) (by omega))
  have HRUN := Lib.hid (fRun (leaves (zssB bs) (blankS r c) []))
  have HGD := Lib.hid hgood
  have HL1 := Lib.hid (fun q (e : a = some q) (h : bs ≠ []) => reads_low HB.out.outer (blks_some h) q e)
  have HL2 := Lib.hid (fun b (hb : b ∈ bs) q (e : b.ad = some q) => reads_low (HB.out.inner b hb) (grid_some (HGD.out b hb)) q e)
  generalize blankS r c = bl at *
  obtain ⟨LL, hLL⟩ : ∃ LL, LL = leaves (zssB bs) bl [] := ⟨_, rfl⟩
  rw [← hLL]
  have HLL := Lib.hid hLL
  clear hLL
  clear hA e1 hgood
  go_enter Try.func14, Try.ntmps14
  go_wp2_with fail
  refine HA.out.mono ?_
  rintro e w1 ⟨rfl, hb⟩
  have HB1 := Lib.hid hb
  clear hb
  go_wp2_with fail
  have hB1a : Below w.heap.size w ((w1.alloc (.cells #[.slice none 0 0] 30)).alloc (.cells #[.slice none 0 0] 31)) := (HB1.out.alloc HB1.out.size _).alloc (by have := HB1.out.size; simp; omega) _
  have HY := Lib.hid (two_new w1 (.slice none 0 0) (.slice none 0 0) 30 31)
  have HB1a := Lib.hid hB1a
  clear hB1a
  refine (HBL.out _).mono ?_
  rintro e w2 ⟨ad, cp, rfl, hown, hb⟩
  have HR2 := Lib.hid (own_reads hown)
  have HLO := Lib.hid (fun q (e : ad = some q) => (hown.lt q.block (by rw [e]; rfl)).1)
  have HB2 := Lib.hid (HB1a.out.trans (hb.mono HB1a.out.size))
  have hinv : FInv w1.heap.size (w1.heap.size + 1) w2.heap.size none w2 := ⟨by omega, HY.out.1.below hb, HY.out.2.below hb⟩
  have hsz : w1.heap.size + 1 < w2.heap.size := hinv.2.2.lt
  have hw1 := HB1.out.size
  have hcall := rebuild_any eg60 (fTell w1.heap.size (w1.heap.size + 1) w2.heap.size (by omega) hsz) bs a cap ad cp bl none 0 [] w2 none hcap (by simpa using hl4) HGD.out HG.out (own_le hown) (Nat.le_refl _) hinv HR2.out (HB.out.below HB2.out)
    (fun q e => ⟨fun hk => by have := HLO.out q e; simp at this; omega, by simp [Value.ownBlock]⟩) (fun hne q e => ⟨fun hk => by have := HL1.out q e hne; omega, by simp [Value.ownBlock]⟩) (fun b hb q e => ⟨fun hk => by have := HL2.out b hb q e; omega, by simp [Value.ownBlock]⟩) (World.ownsRow_nil _ _ _ _) rfl
  rw [HRUN.out, ← HLL.out] at hcall
  have HCALL := Lib.hid hcall
  have HSZ := Lib.hid hsz
  clear hown hb hinv hcall
  go_wp2_with fail
  refine HCALL.out.mono ?_
  rintro e w3 ⟨rfl, hi, _, hf⟩
  have HB3 := Lib.hid (Fr.low HB2.out hf (fun k hk => by
    rcases hk with (h | h) | h
    · omega
    · omega
    · simp [Value.ownBlock] at h))
  clear hf HRUN HCALL E1 HLL
  cases LL with
  | nil =>
    obtain ⟨_, hi1, hi2⟩ := (show FInv w1.heap.size (w1.heap.size + 1) w2.heap.size none w3 from hi)
    have c0 := hi1.cell (j := 0) rfl
    have c1 := hi2.cell (j := 0) rfl
    clear hi hi1 hi2
    simp only [fEnd]
    go_wp2_with fail
    go_quiet (fail)
    go_wp2_with fail
    go_ret3
    exact ⟨none, 0, none, 0, rfl, World.ownsRow_nil _ _ _ _, World.ownsRow_nil _ _ _ _, HB3.out.trans ((Dr.of _ _).below _)⟩
  | cons l L =>
    obtain ⟨pa, pc, sg, sc, h1, h2, h3, h4⟩ := (show FInv w1.heap.size (w1.heap.size + 1) w2.heap.size (some l) w3 from hi)
    clear hi
    have c0 := h1.cell (j := 0) rfl
    have c1 := h2.cell (j := 0) rfl
    have HO3 := Lib.hid (World.ownsRow.mono h3 HB2.out.size)
    have HO4 := Lib.hid (World.ownsRow.mono h4 HB2.out.size)
    clear h1 h2 h3 h4
    simp only [fEnd]
    go_wp2_with fail
    go_quiet (fail)
    go_wp2_with fail
    go_ret3
    exact ⟨_, _, _, _, rfl, own_dr HO3.out (Dr.of _ _), own_dr HO4.out (Dr.of _ _), HB3.out.trans ((Dr.of _ _).below _)⟩
end Go.Proofs.Ytenedmkjbmbapaa
