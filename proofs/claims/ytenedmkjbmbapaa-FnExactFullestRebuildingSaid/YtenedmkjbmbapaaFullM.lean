/- FullestRebuilding: both sides' contracts. -/
import Derived.Test.YtenedmkjbmbapaaFullI
import Derived.Test.YtenedmkjbmbapaaFirstM
import Derived.Test.YtenedmkjbmbapaaFirstP
namespace Go.Proofs.Ytenedmkjbmbapaa
open Go.RowKit

theorem leaves_grid : ∀ (zss : List (List ByteArray)) (s : List ByteArray) (ps : List (Int × Int)), gridB s 5 = true → (∀ zs ∈ zss, gridB zs 3 = true) → ∀ l ∈ leaves zss s ps, gridB l.2 5 = true := by
  intro zss
  induction zss with
  | nil =>
    intro s ps hs _ l hl
    obtain rfl : l = (ps, s) := by simpa [leaves] using hl
    exact hs
  | cons b bs ih =>
    intro s ps hs hz l hl
    rw [show leaves (b :: bs) s ps = (plF s b).flatMap fun p => leaves bs (layR s b p.1 p.2) (ps ++ [p]) from rfl, List.mem_flatMap] at hl
    obtain ⟨p, hp, hl⟩ := hl
    exact ih _ _ (layR_grid hs (hz b (List.mem_cons_self ..)) hp) (fun k hk => hz k (List.mem_cons_of_mem _ hk)) l hl
theorem pts_grid {zs : List ByteArray} (h : gridB zs 5 = true) : ptsF zs ≤ 25 := by
  obtain ⟨_, l2, _⟩ := gridB_bd h
  exact Nat.le_trans (ptsTo_le (gridB_mem h) zs.length (Nat.le_refl _)) (Nat.mul_le_mul_right 5 l2)
theorem asked3 (r c : Int) (zss : List (List ByteArray)) : askedM 3 r c zss = (askedB r c zss && decide ((zss.length : Int) ≤ 3)) := by
  unfold askedM askedB
  cases goodB zss <;> cases inB r 1 5 <;> cases inB c 1 5 <;> simp
  omega
def fullL (L : List Leaf) : (List ByteArray × Nat) × Bool := if (fullF L ([], 99)).2 = 99 then (([], 0), false) else (fullF L ([], 99), true)
def fullR (r c : Int) (zss : List (List ByteArray)) : (List ByteArray × Nat) × Bool := if askedM 3 r c zss = true then fullL (leaves zss (blankS r.toNat c.toNat) []) else (([], 0), false)
def FullROut (w : World) (r : (List ByteArray × Nat) × Bool) (e : Ending) (w' : World) : Prop := ∃ ra rc, e = .returned (.tuple #[.slice ra r.1.1.length rc, .int .i64 (r.1.2 : Int), .bool r.2]) ∧
  w'.ownsRow w.heap.size 9 1 (.slice ra r.1.1.length rc) r.1.1.length (strs r.1.1) ∧ Below w.heap.size w w'
theorem own_newS (u : World) (B : Nat) (h : B ≤ u.heap.size) : (u.alloc (.cells #[] 9)).ownsRow B 9 1 (.slice (some ⟨u.heap.size, 0, none⟩) 0 0) 0 [] := RowIs.owns (RowIs.new u 9 ([] : List Value)) (n := 0) (sz := 1) rfl (by unfold maxLen; omega) h
/-- what the program's teller holds behind all leaves -/
def uOut : Option (List ByteArray × Nat) → (List ByteArray × Nat) × Bool
  | none => (([], 0), false)
  | some y => (y, true)
theorem fullL_of {L : List Leaf} (h : ∀ l ∈ L, ptsF l.2 < 99) : fullL L = uOut (uF L none) := by
  have hr := uF_rel L none ([], 99) h rfl
  unfold fullL
  generalize fullF L ([], 99) = x at hr
  cases hu : uF L none with
  | none =>
    rw [hu] at hr
    obtain rfl : x = ([], 99) := hr
    rfl
  | some y =>
    rw [hu] at hr
    obtain ⟨rfl, h2⟩ := hr
    rw [if_neg (by omega)]
    rfl
set_option maxRecDepth 100000 in
set_option maxHeartbeats 4000000 in
theorem specFull_any (r c : Int) (a : Option Addr) (cap : Nat) (bs : List BlkT) (w : World) (hm : bs.length ≤ maxLen) (hf : Fits bs) (hb : BlksAt w a bs) :
    Calls Try.prog 22 #[.int .i64 r, .int .i64 c, .slice a bs.length cap] w (FullROut w (fullR r c (zssB bs))) := by
  have hA := l4Asked_any r c a cap bs w hm hf hb
  have HB := Lib.hid hb
  clear hb hf hm
  cases e1 : askedB r c (zssB bs)
  · have E1 := Lib.hid (show fullR r c (zssB bs) = (([], 0), false) by rw [fullR, asked3, e1]; rfl)
    rw [E1.out]
    rw [e1] at hA
    have HA := Lib.hid hA
    clear hA e1
    go_enter Try.func22, Try.ntmps22
    go_wp2_with fail
    refine HA.out.mono ?_
    rintro e w1 ⟨rfl, hb⟩
    have HB1 := Lib.hid hb
    clear hb
    go_wp2_with fail
    go_ret3
    exact ⟨_, _, rfl, own_newS w1 w.heap.size HB1.out.size, HB1.out.alloc HB1.out.size _⟩
  rw [e1] at hA
  have HA := Lib.hid hA
  obtain ⟨⟨r1, r2⟩, ⟨c1, c2⟩, hl4, hgood⟩ := asked_bd e1
  by_cases h3 : bs.length ≤ 3
  case neg =>
    have E1 := Lib.hid (show fullR r c (zssB bs) = (([], 0), false) by rw [fullR, asked3, e1, zssB_length]; simp; omega)
    rw [E1.out]
    have hd : decide (3 < bs.length) = true := by simp; omega
    clear hA e1 hgood
    go_enter Try.func22, Try.ntmps22
    go_wp2_with fail
    refine HA.out.mono ?_
    rintro e w1 ⟨rfl, hb⟩
    have HB1 := Lib.hid hb
    clear hb
    go_wp2_with fail
    go_ret3
    exact ⟨_, _, rfl, own_newS w1 w.heap.size HB1.out.size, HB1.out.alloc HB1.out.size _⟩
  have hd : decide (3 < bs.length) = false := by simp; omega
  obtain ⟨r, rfl⟩ : ∃ n : Nat, r = (n : Int) := ⟨r.toNat, by omega⟩
  obtain ⟨c, rfl⟩ : ∃ n : Nat, c = (n : Int) := ⟨c.toNat, by omega⟩
  have E1 := Lib.hid (show fullR r c (zssB bs) = fullL (leaves (zssB bs) (blankS r c) []) by rw [fullR, asked3, e1, zssB_length, if_pos (by simp; omega)]; rfl)
  rw [E1.out]
  have HBL := Lib.hid (fun w => l4Blank_any r c w (by omega) (by omega))
  have HG := Lib.hid (blankS_grid (r := r) (c := c) (by omega) (by omega) (by omega) (by omega))
  have HFI := Lib.hid (fun sa sc ta tc w' h2 h3 h4 h6 => l4Fullest_any w.heap.size a cap bs hl4 hgood bs.length 0 (by omega) (by omega) sa sc (blankS r c) ta tc [] 99 [] w' HG.out h2 h3 h4 (by omega) h6)
  simp only [List.drop_zero] at HFI
  generalize blankS r c = bl at *
  generalize leaves (zssB bs) bl [] = LL at *
  obtain ⟨⟨rs, rn⟩, hres⟩ : ∃ x, x = fullF LL ([], 99) := ⟨_, rfl⟩
  rw [← hres] at HFI
  have HRES := Lib.hid hres
  clear hA e1 hgood hres
  go_enter Try.func22, Try.ntmps22
  go_wp2_with fail
  refine HA.out.mono ?_
  rintro e w1 ⟨rfl, hb⟩
  have HB1 := Lib.hid hb
  clear hb
  go_wp2_with fail
  refine (HBL.out _).mono ?_
  rintro e w2 ⟨ad, cp, rfl, hown, hb⟩
  have HR2 := Lib.hid (World.ownsRow.mono hown HB1.out.size)
  have HB2 := Lib.hid (HB1.out.trans (hb.mono HB1.out.size))
  have HO2 := Lib.hid (own_newS w2 w.heap.size HB2.out.size)
  clear hown hb
  go_wp2_with fail
  refine (HFI.out ad cp (some ⟨w2.heap.size, 0, none⟩) 0 (w2.alloc (.cells #[] 9)) (Nat.le_trans HB2.out.size (by simp)) (HR2.out.alloc _) HO2.out ((HB.out.below HB2.out).below (Go.Joins.below_alloc1 w2 _))).mono ?_
  rintro e w3 ⟨ra, rc, rfl, hs, hb⟩
  have HS := Lib.hid hs
  have HB3 := Lib.hid ((HB2.out.alloc HB2.out.size _).trans (hb.mono (Nat.le_trans HB2.out.size (by simp))))
  clear hs hb
  by_cases e99 : rn = 99
  · subst e99
    have HF := Lib.hid (show fullL LL = (([], 0), false) by rw [fullL, ← HRES.out]; rfl)
    go_wp2_with fail
    go_ret3
    rw [HF.out]
    exact ⟨_, _, rfl, own_newS w3 w.heap.size HB3.out.size, HB3.out.alloc HB3.out.size _⟩
  · have HF := Lib.hid (show fullL LL = ((rs, rn), true) by rw [fullL, ← HRES.out, if_neg (by simpa using e99)])
    have he : ((rn : Int) == 99) = false := by simp; omega
    go_wp2_with fail
    go_ret3
    rw [HF.out]
    exact ⟨_, _, rfl, HS.out, HB3.out⟩
set_option maxRecDepth 100000 in
set_option maxHeartbeats 4000000 in
theorem implFull_any (r c : Int) (a : Option Addr) (cap : Nat) (bs : List BlkT) (w : World) (hm : bs.length ≤ maxLen) (hcap : bs.length ≤ cap) (hf : Fits bs) (hb : BlksAt w a bs) :
    Calls Try.prog 23 #[.int .i64 r, .int .i64 c, .slice a bs.length cap] w (FullROut w (fullR r c (zssB bs))) := by
  have hA := rebuildingFitsM_any 3 r c a cap bs w hm hf hb
  have HB := Lib.hid hb
  clear hb hf hm
  cases e1 : askedM 3 r c (zssB bs)
  · have E1 := Lib.hid (show fullR r c (zssB bs) = (([], 0), false) by rw [fullR, e1]; rfl)
    rw [E1.out]
    rw [e1] at hA
    have HA := Lib.hid hA
    clear hA e1
    go_enter Try.func23, Try.ntmps23
    go_wp2_with fail
    refine HA.out.mono ?_
    rintro e w1 ⟨rfl, hb⟩
    have HB1 := Lib.hid hb
    clear hb
    go_wp2_with fail
    go_ret3
    exact ⟨none, 0, rfl, World.ownsRow_nil _ _ _ _, HB1.out⟩
  rw [e1] at hA
  have HA := Lib.hid hA
  have e2 : askedB r c (zssB bs) = true := by rw [asked3] at e1; simp at e1; exact e1.1
  obtain ⟨⟨r1, r2⟩, ⟨c1, c2⟩, hl4, hgood⟩ := asked_bd e2
  obtain ⟨r, rfl⟩ : ∃ n : Nat, r = (n : Int) := ⟨r.toNat, by omega⟩
  obtain ⟨c, rfl⟩ : ∃ n : Nat, c = (n : Int) := ⟨c.toNat, by omega⟩
  have E1 := Lib.hid (show fullR r c (zssB bs) = fullL (leaves (zssB bs) (blankS r c) []) by rw [fullR, e1, if_pos rfl]; rfl)
  rw [E1.out]
  have HBL := Lib.hid (fun w => emptySheet_any r c w (by omega) (by omega) (by omega))
  have HG := Lib.hid (blankS_grid (r := r) (c := c) (by omega) (by omega) (by omega) (by omega))
  have HRUN := Lib.hid (uRun (leaves (zssB bs) (blankS r c) []) none)
  have HGD := Lib.hid hgood
  have HFL := Lib.hid (fullL_of (L := leaves (zssB bs) (blankS r c) []) (fun l hl => by
    have := pts_grid (leaves_grid _ _ _ HG.out (fun zs hz => by
      simp only [zssB, List.mem_map] at hz
      obtain ⟨b, hb, rfl⟩ := hz
      exact hgood b hb) l hl)
    omega))
  have HL1 := Lib.hid (fun q (e : a = some q) (h : bs ≠ []) => reads_low HB.out.outer (blks_some h) q e)
  have HL2 := Lib.hid (fun b (hb : b ∈ bs) q (e : b.ad = some q) => reads_low (HB.out.inner b hb) (grid_some (HGD.out b hb)) q e)
  generalize blankS r c = bl at *
  obtain ⟨LL, hLL⟩ : ∃ LL, LL = leaves (zssB bs) bl [] := ⟨_, rfl⟩
  rw [← hLL] at HFL HRUN ⊢
  have HLL := Lib.hid hLL
  clear hLL
  clear hA e1 e2 hgood
  rw [HFL.out]
  clear HFL
  go_enter Try.func23, Try.ntmps23
  go_wp2_with fail
  refine HA.out.mono ?_
  rintro e w1 ⟨rfl, hb⟩
  have HB1 := Lib.hid hb
  clear hb
  go_wp2_with fail
  have hB1a : Below w.heap.size w ((w1.alloc (.cells #[.slice none 0 0] 31)).alloc (.cells #[.int .i64 0] 3)) := (HB1.out.alloc HB1.out.size _).alloc (by have := HB1.out.size; simp; omega) _
  have HY := Lib.hid (two_new w1 (.slice none 0 0) (.int .i64 0) 31 3)
  have HB1a := Lib.hid hB1a
  clear hB1a
  refine (HBL.out _).mono ?_
  rintro e w2 ⟨ad, cp, rfl, hown, hb⟩
  have HR2 := Lib.hid (own_reads hown)
  have HLO := Lib.hid (fun q (e : ad = some q) => (hown.lt q.block (by rw [e]; rfl)).1)
  have HB2 := Lib.hid (HB1a.out.trans (hb.mono HB1a.out.size))
  have hinv : UInv w1.heap.size (w1.heap.size + 1) w2.heap.size none w2 := ⟨by omega, HY.out.1.below hb, HY.out.2.below hb⟩
  have hsz : w1.heap.size + 1 < w2.heap.size := hinv.2.2.lt
  have hw1 := HB1.out.size
  have hcall := rebuild_any eg66 (uTell w1.heap.size (w1.heap.size + 1) w2.heap.size (by omega) hsz) bs a cap ad cp bl none 0 [] w2 none hcap (by simpa using hl4) HGD.out HG.out (own_le hown) (Nat.le_refl _) hinv HR2.out (HB.out.below HB2.out)
    (fun q e => ⟨fun hk => by have := HLO.out q e; simp at this; omega, by simp [Value.ownBlock]⟩) (fun hne q e => ⟨fun hk => by have := HL1.out q e hne; omega, by simp [Value.ownBlock]⟩) (fun b hb q e => ⟨fun hk => by have := HL2.out b hb q e; omega, by simp [Value.ownBlock]⟩) (World.ownsRow_nil _ _ _ _) trivial
  rw [← HLL.out, HRUN.out] at hcall
  have HCALL := Lib.hid hcall
  have HSZ := Lib.hid hsz
  clear hown hb hinv hcall
  go_wp2_with fail
  refine HCALL.out.mono ?_
  rintro e w3 ⟨rfl, hi, _, hf⟩
  have HB3 := Lib.hid (Fr.low HB2.out hf (fun k hk => by
    rcases hk with (h | h) | h
    · omega
    · omega
    · simp [Value.ownBlock] at h))
  clear hf HRUN HCALL E1 HLL
  obtain ⟨u, hu⟩ : ∃ u, u = uF LL none := ⟨_, rfl⟩
  rw [← hu] at hi
  have HU := Lib.hid hu
  clear hu
  cases u with
  | none =>
    obtain ⟨_, hi1, hi2⟩ := (show UInv w1.heap.size (w1.heap.size + 1) w2.heap.size none w3 from hi)
    have c0 := hi1.cell (j := 0) rfl
    have c1 := hi2.cell (j := 0) rfl
    clear hi hi1 hi2
    go_wp2_with fail
    go_quiet (fail)
    go_wp2_with fail
    go_ret3
    rw [← HU.out]
    exact ⟨none, 0, rfl, World.ownsRow_nil _ _ _ _, HB3.out.trans ((Dr.of _ _).below _)⟩
  | some y =>
    obtain ⟨b, n⟩ := y
    obtain ⟨_, ga, gc, h1, h2, h3⟩ := (show UInv w1.heap.size (w1.heap.size + 1) w2.heap.size (some (b, n)) w3 from hi)
    clear hi
    have c0 := h1.cell (j := 0) rfl
    have c1 := h2.cell (j := 0) rfl
    have HO3 := Lib.hid (World.ownsRow.mono h3 HB2.out.size)
    clear h1 h2 h3
    go_wp2_with fail
    go_quiet (fail)
    go_wp2_with fail
    go_ret3
    rw [← HU.out]
    exact ⟨_, _, rfl, own_dr HO3.out (Dr.of _ _), HB3.out.trans ((Dr.of _ _).below _)⟩
theorem fullR_len (r c : Int) (bs : List BlkT) : (fullR r c (zssB bs)).1.1.length ≤ 5 ∧ (fullR r c (zssB bs)).1.2 ≤ 99 := by
  have key : ∀ (L : List Leaf) (st : List ByteArray × Nat), (∀ l ∈ L, l.2.length ≤ 5) → st.1.length ≤ 5 → (fullF L st).1.length ≤ 5 := by
    intro L
    induction L with
    | nil => intro st _ h; exact h
    | cons l L ih =>
      intro st h1 h2
      refine ih (fullStep st l) (fun k hk => h1 k (List.mem_cons_of_mem _ hk)) ?_
      unfold fullStep
      split
      · exact h1 l (List.mem_cons_self ..)
      · exact h2
  unfold fullR
  split
  · rename_i h
    rw [asked3] at h
    simp only [Bool.and_eq_true] at h
    obtain ⟨⟨r1, r2⟩, _, _, _⟩ := asked_bd h.1
    have hs := leaves_shape (zssB bs) (blankS r.toNat c.toNat) []
    have k1 := key (leaves (zssB bs) (blankS r.toNat c.toNat) []) ([], 99) (fun l hl => by have := (hs l hl).2; rw [blankS_length] at this; omega) (by simp)
    have k2 := fullF_le (leaves (zssB bs) (blankS r.toNat c.toNat) []) ([], 99)
    unfold fullL
    split
    · simp
    · exact ⟨k1, k2⟩
  · simp
end Go.Proofs.Ytenedmkjbmbapaa
