/- The law of JoinStrings, walked out of the contracts. -/
import Derived.Test.YtbgfdhghhaoabaaArgT
import Derived.Test.YtbgfdhghhaoabaaJoinS
namespace Go.Proofs.Ytbgfdhghhaoabaa
open Go.RowKit

set_option maxRecDepth 100000 in
set_option maxHeartbeats 8000000 in
theorem FnExactJoinStrings_walk {w : World} (x : Slc × List ByteArray) (s : ByteArray) (hx : StrsIn w x.1 x.2) (hs : s.size ≤ maxLen) : Calls Try.prog 6 #[x.1.val, .string s] w fun e w' => e = .returned (.bool true) ∧ Below w.heap.size w w' := by
  obtain ⟨⟨adx, lenx, capx⟩, zx⟩ := x
  obtain ⟨hsx, hmx, hrx, hfx⟩ := hx
  simp only at hsx hmx hrx hfx
  subst hsx
  have HRx := Lib.hid hrx
  have HMx := Lib.hid hmx
  have HFx := Lib.hid hfx
  clear hrx
  by_cases hbigs : 1048576 < s.size
  · unfold maxLen at hs
    go_enter Try.func6, Try.ntmps6
    go_wp2_with fail
    go_ret
    exact ⟨rfl, Below.refl _ _⟩
  have hls : s.size ≤ 1048576 := by omega
  have hsz : ∀ z ∈ zx, z.size ≤ totS zx := fun z hz => totS_mem hz
  generalize hv : joinF zx s = r
  obtain ⟨r0, r1⟩ := r
  have h1 := fun a c w hm hz hr => specJoin_any a c zx s w hm hz hls hr
  have h2 := fun a c w hc hm hz hr => implJoin_any a c zx s w hc hm hz hls hr
  rw [hv] at h1 h2
  have H1 := Lib.hid h1
  have H2 := Lib.hid h2
  have HSZ := Lib.hid hsz
  clear h1 h2 hv hsz hbigs hs
  rcases (show 1048576 < (totS zx : Int) ∨ (totS zx : Int) ≤ 1048576 by omega) with hbigx | hlex
  · go_enter Try.func6, Try.ntmps6
    go_wp2_with fail
    have HB0 := Lib.hid (Below.refl w.heap.size w)
    refine (szStringS_big _ _ zx 1048576 _ HMx.out (HRx.out.below HB0.out) (by omega) (by omega) (by omega) HFx.out).mono ?_
    rintro e _ ⟨rfl, rfl⟩
    go_wp2_with fail
    go_ret
    exact ⟨rfl, HB0.out⟩
  have hlx : zx.length ≤ 1048576 := by unfold totS at hlex; omega
  go_enter Try.func6, Try.ntmps6
  go_wp2_with fail
  have HB0 := Lib.hid (Below.refl w.heap.size w)
  refine (szStringS_ok _ _ zx 1048576 _ (HRx.out.below HB0.out) (by omega) (by omega)).mono ?_
  rintro e _ ⟨rfl, rfl⟩
  go_wp2_with fail
  refine (toStringS_any _ _ zx _ (by omega) (HRx.out.below HB0.out)).mono ?_
  rintro e w1 ⟨g1, rfl, hgx, hrow, hb⟩
  have ge_S := HB0.out.size
  have HB1 := Lib.hid (HB0.out.trans (hb.mono HB0.out.size))
  clear HB0 hb
  have S_1 := Lib.hid (hrow.owns (base := w.heap.size) (n := zx.length) (sz := 1) (by simp) (by unfold maxLen; omega) hgx)
  clear hrow hgx
  go_wp2_with fail
  refine (H1.out _ _ _ hlx (fun z hz => by have := HSZ.out z hz; omega) (own_reads S_1.out)).mono ?_
  rintro e w2 ⟨rfl, hd⟩
  have HB2 := Lib.hid (HB1.out.trans (hd.below _))
  have S_2 := Lib.hid (own_dr S_1.out hd)
  clear HB1 S_1 hd
  go_wp2_with fail
  refine (toStringS_any _ _ zx _ (by omega) (HRx.out.below HB2.out)).mono ?_
  rintro e w3 ⟨g2, rfl, hgx, hrow, hb⟩
  have lt_S_X := Lib.hid (fun q (hq : _ = some q) => (S_2.out.lt q hq).2)
  have ge_X := HB2.out.size
  have HB3 := Lib.hid (HB2.out.trans (hb.mono HB2.out.size))
  have S_3 := Lib.hid (own_below S_2.out hb)
  clear HB2 S_2 hb
  have X_3 := Lib.hid (hrow.owns (base := w2.heap.size) (n := zx.length) (sz := 1) (by simp) (by unfold maxLen; omega) hgx)
  clear hrow hgx
  go_wp2_with fail
  refine (H2.out _ _ _ (Nat.le_refl _) hlx (fun z hz => by have := HSZ.out z hz; omega) (own_reads X_3.out)).mono ?_
  rintro e w4 ⟨rfl, hb⟩
  have HB4 := Lib.hid (HB3.out.trans (hb.mono HB3.out.size))
  have S_4 := Lib.hid (own_below S_3.out hb)
  have X_4 := Lib.hid (own_below X_3.out hb)
  clear HB3 S_3 X_3 hb
  go_wp2_with fail
  refine (toStringS_any _ _ zx _ (by omega) (HRx.out.below HB4.out)).mono ?_
  rintro e w5 ⟨g3, rfl, hgx, hrow, hb⟩
  have lt_S_Z := Lib.hid (fun q (hq : _ = some q) => (S_4.out.lt q hq).2)
  have lt_X_Z := Lib.hid (fun q (hq : _ = some q) => (X_4.out.lt q hq).2)
  have ge_Z := HB4.out.size
  have HB5 := Lib.hid (HB4.out.trans (hb.mono HB4.out.size))
  have S_5 := Lib.hid (own_below S_4.out hb)
  have X_5 := Lib.hid (own_below X_4.out hb)
  clear HB4 S_4 X_4 hb
  have Z_5 := Lib.hid (hrow.owns (base := w4.heap.size) (n := zx.length) (sz := 1) (by simp) (by unfold maxLen; omega) hgx)
  clear hrow hgx
  go_wp2_with fail
  refine (eqStringS_any _ _ _ _ zx zx _ HMx.out HMx.out (own_reads X_5.out) (own_reads Z_5.out)).mono ?_
  rintro e w6 ⟨rfl, hd⟩
  have HB6 := Lib.hid (HB5.out.trans (hd.below _))
  have S_6 := Lib.hid (own_dr S_5.out hd)
  have X_6 := Lib.hid (own_dr X_5.out hd)
  have Z_6 := Lib.hid (own_dr Z_5.out hd)
  clear HB5 S_5 X_5 Z_5 hd
  simp only [decide_true]
  go_wp2_with fail
  go_ret
  exact ⟨rfl, HB6.out⟩
end Go.Proofs.Ytbgfdhghhaoabaa
