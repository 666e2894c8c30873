/- All places at which a block fits: the reference's side. -/
import Derived.Test.YtenedmkjbmbapaaFitS
import Derived.Deep.AppendLies
namespace Go.Proofs.Ytenedmkjbmbapaa
open Go.RowKit

def pcells (p : Int × Int) : List Value := [.int .i64 p.1, .int .i64 p.2]
def pairs (ps : List (Int × Int)) : List Value := ps.flatMap pcells
theorem pairs_length (ps : List (Int × Int)) : (pairs ps).length = ps.length * 2 := by
  induction ps with
  | nil => rfl
  | cons p ps ih => rw [show pairs (p :: ps) = pcells p ++ pairs ps from rfl, List.length_append, ih, List.length_cons]; simp [pcells]; omega
theorem pairs_snoc (ps : List (Int × Int)) (p : Int × Int) : pairs (ps ++ [p]) = pairs ps ++ pcells p := by simp [pairs]
theorem pairs_get {ps : List (Int × Int)} {k : Nat} (h : k < ps.length) : (pairs ps)[k * 2]? = some (.int .i64 ps[k].1) ∧ (pairs ps)[k * 2 + 1]? = some (.int .i64 ps[k].2) := by
  induction ps generalizing k with
  | nil => simp at h
  | cons z zs ih =>
    cases k with
    | zero => simp [pairs, pcells]
    | succ k =>
      have := ih (k := k) (by simpa using h)
      rw [show (k + 1) * 2 = k * 2 + 1 + 1 from by omega]
      simpa [pairs, pcells] using this
theorem info_pair : (Try.prog.info? 54).map (fun i => (i.zero, i.size, i.bytes)) = some (some (.agg #[.int .i64 0, .int .i64 0]), 2, 16) := by kernel_rfl
/-- the places in a row, in the first k columns -/
def rowPl (xs ys : List ByteArray) (r k : Nat) : List (Int × Int) := ((List.range k).filter fun (c : Nat) => fitsB xs ys (r : Int) (c : Int)).map fun (c : Nat) => ((r : Int), (c : Int))
/-- the places in the first r rows, and in the first k columns of the next one -/
def plTo (xs ys : List ByteArray) (r k : Nat) : List (Int × Int) := (List.range r).flatMap (fun r' => rowPl xs ys r' (rowAt xs 0).size) ++ rowPl xs ys r k
def plF (xs ys : List ByteArray) : List (Int × Int) := (List.range xs.length).flatMap fun r' => rowPl xs ys r' (rowAt xs 0).size
theorem plTo_zero (xs ys : List ByteArray) : plTo xs ys 0 0 = [] := by simp [plTo, rowPl]
theorem plTo_row (xs ys : List ByteArray) (r : Nat) : plTo xs ys r (rowAt xs 0).size = plTo xs ys (r + 1) 0 := by simp [plTo, rowPl, List.range_succ]
theorem plTo_all (xs ys : List ByteArray) : plTo xs ys xs.length 0 = plF xs ys := by simp [plTo, rowPl, plF]
theorem plTo_yes {xs ys : List ByteArray} {r k : Nat} (h : fitsB xs ys (r : Int) (k : Int) = true) : plTo xs ys r (k + 1) = plTo xs ys r k ++ [((r : Int), (k : Int))] := by
  simp [plTo, rowPl, List.range_succ, List.filter_append, h]
theorem plTo_no {xs ys : List ByteArray} {r k : Nat} (h : fitsB xs ys (r : Int) (k : Int) = false) : plTo xs ys r (k + 1) = plTo xs ys r k := by
  simp [plTo, rowPl, List.range_succ, List.filter_append, h]
theorem rowPl_len (xs ys : List ByteArray) (r k : Nat) : (rowPl xs ys r k).length ≤ k := by
  simp only [rowPl, List.length_map]
  exact Nat.le_trans (List.length_filter_le _ _) (by simp)
theorem flat_len {α β : Type} {f : α → List β} {m : Nat} (h : ∀ a, (f a).length ≤ m) : ∀ l : List α, (l.flatMap f).length ≤ l.length * m := by
  intro l
  induction l with
  | nil => simp
  | cons a l ih => rw [List.flatMap_cons, List.length_append, List.length_cons, Nat.add_mul]; have := h a; omega
theorem plTo_len {xs ys : List ByteArray} {r k : Nat} (hw : (rowAt xs 0).size ≤ 5) (hk : k ≤ 5) (hr : r ≤ 5) : (plTo xs ys r k).length ≤ 30 := by
  unfold plTo
  rw [List.length_append]
  have h1 := flat_len (f := fun r' => rowPl xs ys r' (rowAt xs 0).size) (m := 5) (fun a => Nat.le_trans (rowPl_len _ _ _ _) hw) (List.range r)
  have h2 := rowPl_len xs ys r k
  rw [List.length_range] at h1
  omega
theorem plF_in {xs ys : List ByteArray} {p : Int × Int} (h : p ∈ plF xs ys) : ∃ r c : Nat, p = ((r : Int), (c : Int)) ∧ r < xs.length ∧ c < (rowAt xs 0).size ∧ fitsB xs ys (r : Int) (c : Int) = true := by
  simp only [plF, List.mem_flatMap, List.mem_range, rowPl, List.mem_map, List.mem_filter] at h
  obtain ⟨r, hr, c, ⟨hc, hf⟩, rfl⟩ := h
  exact ⟨r, c, rfl, hr, hc, hf⟩
set_option maxRecDepth 100000 in
set_option maxHeartbeats 8000000 in
theorem l4Places_any (a b : Option Addr) (ca cb : Nat) (xs ys : List ByteArray) (w : World) (gx : gridB xs 5 = true) (gy : gridB ys 3 = true) (hx : Reads w a (strs xs)) (hy : Reads w b (strs ys)) :
    Calls Try.prog 75 #[.slice a xs.length ca, .agg #[.slice b ys.length cb]] w fun e w' => ∃ ad cp, e = .returned (.slice ad (plF xs ys).length cp) ∧
      w'.ownsRow w.heap.size 54 2 (.slice ad (plF xs ys).length cp) (plF xs ys).length (pairs (plF xs ys)) ∧ Below w.heap.size w w' := by
  obtain ⟨i0, hi, hz0, hz1, hz2⟩ := info_parts info_pair
  have B0 := Lib.hid (Go.Joins.below_alloc2 w (.cells #[.slice b ys.length cb] 45) (.cells #[] 54))
  have BX : Hid (RowIs ((w.alloc (.cells #[.slice b ys.length cb] 45)).alloc (.cells #[] 54)) w.heap.size 45 [.slice b ys.length cb]) := Lib.hid ((RowIs.new w 45 [.slice b ys.length cb]).alloc _)
  have hown0 : Hid (((w.alloc (.cells #[.slice b ys.length cb] 45)).alloc (.cells #[] 54)).ownsRow w.heap.size 54 2 (.slice (some ⟨w.heap.size + 1, 0, none⟩) 0 0) 0 []) := Lib.hid (by
    have := RowIs.owns (base := w.heap.size) (RowIs.new (w.alloc (.cells #[.slice b ys.length cb] 45)) 54 ([] : List Value)) (n := 0) (sz := 2) rfl (by unfold maxLen; omega) (by simp)
    simpa using this)
  have HF := Lib.hid (fun w r c h1 h2 h3 h4 hx hy => l4Fits_any a b ca cb xs ys r c w h1 h2 h3 h4 gx gy hx hy)
  have HX := Lib.hid hx
  have HY := Lib.hid hy
  obtain ⟨x1, x2, x3⟩ := gridB_bd gx
  have sx := x3 0 (by omega)
  obtain ⟨S0, q0⟩ : ∃ s, rowAt xs 0 = s := ⟨_, rfl⟩
  rw [q0] at sx
  obtain ⟨_, sx1, sx2⟩ := sx
  have Q0 := Lib.hid q0
  have HLN := Lib.hid (fun r k (hk : k ≤ 5) (hr : r ≤ 5) => plTo_len (xs := xs) (ys := ys) (r := r) (k := k) (by rw [q0]; exact sx2) hk hr)
  have hxo := hx
  clear x3 gx gy hx hy
  rcases hxo with h0 | ⟨bx, ox, rfl, hbx, hcx⟩
  · simp [strs] at h0; subst h0; simp at x1
  have hcell0 : w.cell? ⟨bx, ox, none⟩ = some (.string S0) := by
    have := hcx 0 _ (strs_get (show 0 < xs.length by omega))
    rw [← q0, rowAt_of (show 0 < xs.length by omega)]; simpa using this
  have HCE := Lib.hid hcell0
  clear hcx q0 hcell0
  go_enter Try.func75, Try.ntmps75
  go_wp2_with fail
  generalize hw0 : (w.alloc (.cells #[.slice b ys.length cb] 45)).alloc (.cells #[] 54) = w0 at *
  go_loopw [5, 6] (fun v i wr => ∃ r : Nat, r ≤ xs.length ∧ i = .int .i64 r ∧ (∃ ad cp, v = .slice ad (plTo xs ys r 0).length cp) ∧ wr.ownsRow w.heap.size 54 2 v (plTo xs ys r 0).length (pairs (plTo xs ys r 0)) ∧
    RowIs wr w.heap.size 45 [.slice b ys.length cb] ∧ Below w.heap.size w wr) (fun _ i _ => xs.length - (intOf i).toNat)
  case atStart => exact ⟨0, Nat.zero_le _, rfl, ⟨_, _, by rw [plTo_zero]; rfl⟩, by rw [plTo_zero]; exact hown0.out, BX.out, B0.out⟩
  case round =>
    obtain ⟨r, hr, rfl, ⟨ad, cp, rfl⟩, hown, hbox, hbel⟩ := hrel
    have HO := Lib.hid hown
    have HBX := Lib.hid hbox
    have HBL := Lib.hid hbel
    clear hown hbox
    by_cases hrl : r < xs.length
    · clear hbel
      go_wp2_with fail
      obtain ⟨wo, rfl⟩ : ∃ wo : World, wo = wr := ⟨_, rfl⟩
      go_loopw [5, 7] (fun v i wr => ∃ k : Nat, k ≤ S0.size ∧ i = .int .i64 k ∧ (∃ ad cp, v = .slice ad (plTo xs ys r k).length cp) ∧ wr.ownsRow w.heap.size 54 2 v (plTo xs ys r k).length (pairs (plTo xs ys r k)) ∧
        RowIs wr w.heap.size 45 [.slice b ys.length cb] ∧ Below w.heap.size w wr) (fun _ i _ => S0.size - (intOf i).toNat)
      case atStart => exact ⟨0, Nat.zero_le _, rfl, ⟨_, _, rfl⟩, HO.out, HBX.out, HBL.out⟩
      case round =>
        obtain ⟨k, hk, rfl, ⟨ad, cp, rfl⟩, hown, hbox, hbel⟩ := hrel
        have k0 := (hbel.cell (p := ⟨bx, ox, none⟩) hbx).trans HCE.out
        have HO1 := Lib.hid hown
        have HBX1 := Lib.hid hbox
        have HBL1 := Lib.hid hbel
        clear hown hbox hbel
        by_cases hkl : k < S0.size
        · have cX := HBX1.out.cell (j := 0) rfl
          have hln := HLN.out r k (by omega) (by omega)
          have hY := fun h => plTo_yes (xs := xs) (ys := ys) (r := r) (k := k) h
          have hN := fun h => plTo_no (xs := xs) (ys := ys) (r := r) (k := k) h
          have hF := HF.out wr (r : Int) (k : Int) (by omega) (by omega) (by omega) (by omega) (HX.out.below HBL1.out) (HY.out.below HBL1.out)
          cases hfit : fitsB xs ys (r : Int) (k : Int)
          · rw [hfit] at hF
            have HFF := Lib.hid hF
            have HS := Lib.hid (hN hfit)
            clear hF hfit hY hN
            go_wp2_with fail
            refine HFF.out.mono ?_
            rintro e w2 ⟨rfl, hb⟩
            have HO2 := Lib.hid (own_below HO1.out hb)
            have HX2 := Lib.hid (HBX1.out.below hb)
            have HB2 := Lib.hid (HBL1.out.trans (hb.mono HBL1.out.size))
            clear hb cX k0
            go_wp2_with fail
            go_roundw
            case rel => exact ⟨k + 1, by omega, by go_num, ⟨_, _, by rw [HS.out]⟩, by rw [HS.out]; exact HO2.out, HX2.out, HB2.out⟩
            case measure => simp [intOf]; omega
          · rw [hfit] at hF
            have HFF := Lib.hid hF
            have HS := Lib.hid (hY hfit)
            clear hF hfit hY hN
            go_wp2_with fail
            refine HFF.out.mono ?_
            rintro e w2 ⟨rfl, hb⟩
            have HO2 := Lib.hid (own_below HO1.out hb)
            have HX2 := Lib.hid (HBX1.out.below hb)
            have HB2 := Lib.hid (HBL1.out.trans (hb.mono HBL1.out.size))
            clear hb cX k0
            go_wp2_with (at_builtin; go_must (refine wpList_append_own _ rfl _ _ 30 rfl w.heap.size 54 i0 _ 2 16 Try.underlying30 hi hz0 hz1 hz2 rfl (by decide) _ _ _ rfl (HO2.out.alloc _) ⟨w2.heap.size, 0, none⟩ 1 1 (pcells ((r : Int), (k : Int))) rfl rfl (World.news_of_block (cs := (pcells ((r : Int), (k : Int))).toArray) (t := 54) (fr := (0, 0)) (heap_alloc_new _ _)) (by simp [pcells, Value.oneCell']) (by unfold maxLen; omega) (by omega) (Nat.le_trans HB2.out.size (by simp)) ?_))
            intro v' w3 hown3 hgrow3 _
            obtain ⟨g3, c3, hv⟩ := Go.Joins.ownsRow_form hown3 (by omega)
            have hl1 : (plTo xs ys r (k + 1)).length = (plTo xs ys r k).length + 1 := by rw [HS.out]; simp
            have HO4 : Hid (w3.ownsRow w.heap.size 54 2 (.slice (some ⟨g3, 0, none⟩) ((plTo xs ys r k).length + 1) c3) (plTo xs ys r (k + 1)).length (pairs (plTo xs ys r (k + 1)))) := Lib.hid (by
              rw [hl1, HS.out, pairs_snoc]; rw [hv] at hown3; exact hown3)
            have HX4 := Lib.hid ((HX2.out.alloc _).grown hgrow3 (fun e => own_row_ne HO2.out HX2.out (by decide) e.symm))
            have HB4 := Lib.hid ((HB2.out.alloc HB2.out.size _).grown hgrow3 (Nat.le_trans HB2.out.size (by simp)) (fun q hq => (HO2.out.lt q hq).1))
            have HL4 := Lib.hid hl1
            rw [hv]
            clear hown3 hgrow3 hv hl1
            go_wp2_with fail
            go_roundw
            case rel => exact ⟨k + 1, by omega, by go_num, ⟨_, _, by rw [HL4.out]⟩, HO4.out, HX4.out, HB4.out⟩
            case measure => simp [intOf]; omega
        · have hk2 : k = S0.size := by omega
          have HS := Lib.hid (plTo_row xs ys r)
          rw [Q0.out, ← hk2] at HS
          go_wp2_with fail
          go_roundw
          case rel => exact ⟨r + 1, by omega, by go_num, ⟨_, _, by rw [← HS.out]⟩, by rw [← HS.out]; exact HO1.out, HBX1.out, HBL1.out⟩
          case measure => simp [intOf]; omega
    · obtain rfl : r = xs.length := by omega
      have HS := Lib.hid (plTo_all xs ys)
      go_wp2_with fail
      go_ret
      exact ⟨_, _, by rw [HS.out]; rfl, by have := HO.out; rw [HS.out] at this; exact this, HBL.out⟩
end Go.Proofs.Ytenedmkjbmbapaa
